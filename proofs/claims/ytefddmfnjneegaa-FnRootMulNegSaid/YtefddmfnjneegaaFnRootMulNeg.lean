/- Signs are multiplied: the law returns true for all bytes. No condition. -/
import Derived.Test.YtefddmfnjneegaaDrawRoot2
namespace Go.Proofs.Ytefddmfnjneegaa.fnRootMulNeg
open Go.ChangeShapes Go.WideShapes Go.ChangeAt Go.RowKit Go.Deep Go.Joins
set_option linter.unusedVariables false
set_option maxRecDepth 100000

set_option maxHeartbeats 4000000 in
theorem walk (A0 : Option Addr) (n0 c0 : Nat) (W : World) (hnc : n0 ≤ c0) (hcm : c0 ≤ maxLen) (hb : Bytes W W.heap.size A0 n0) :
    Calls Try.prog 4 #[.slice A0 n0 c0] W fun e W' => e = .returned (.bool true) ∧ Below W.heap.size W W' := by
  have hcm' := hcm
  unfold maxLen at hcm'
  by_cases hn : 1048576 < n0
  · go_enter Try.func4, Try.ntmps4
    go_wp2_with fail
    go_ret
    exact ⟨rfl, (by repeat (first | exact Below.refl _ _ | assumption | refine bel_drewN ?_ _ | refine bel_drew ?_ | refine bel_alloc ?_ _ | refine bel_set ?_ (by simp; omega) _ | refine bel_set ?_ (by simp) _ | refine bel_trans ?_ (by assumption)))⟩
  · go_enter Try.func4, Try.ntmps4
    go_wp2_with fail
    refine (draw_two _ _ _ _ hnc hcm hb).mono ?_
    rintro e w1 ⟨a, b, rfl, L1⟩
    clear hb
    have HI := Lib.hid (fun w => impl_rmul a b w)
    have HS := Lib.hid (fun w => spec_rmul a b w)
    have HF := Lib.hid (show mulB a b = true → (∀ w, Calls Try.prog 8 #[rtV b] w fun e w' => e = .returned (.tuple #[rtV (negV b), .bool true]) ∧ Below w.heap.size w w') ∧
        (∀ w, Calls Try.prog 6 #[rtV a, rtV (negV b)] w fun e w' => e = .returned (.tuple #[rtV (negV (mulV a b)), .bool true]) ∧ Below w.heap.size w w') ∧
        (∀ w, Calls Try.prog 8 #[rtV (mulV a b)] w fun e w' => e = .returned (.tuple #[rtV (negV (mulV a b)), .bool true]) ∧ Below w.heap.size w w') from fun h => by
      obtain ⟨h1, h2, h3, h4⟩ := mul_neg h
      refine ⟨fun w => ?_, fun w => ?_, fun w => ?_⟩
      · have := impl_neg b w; rwa [h3] at this
      · have := impl_rmul a (negV b) w; rwa [h1, h2] at this
      · have := impl_neg (mulV a b) w; rwa [h4] at this)
    generalize negV (mulV a b) = Z at *
    generalize negV b = X at *
    generalize mulV a b = V at *
    generalize mulB a b = bb at *
    have Oa := (Own.new w1 26 #[.int .i64 a.1, .int .i64 a.2.1, .int .i64 a.2.2]).alloc (.cells #[.int .i64 b.1, .int .i64 b.2.1, .int .i64 b.2.2] 26)
    have Ob := Own.new (w1.alloc (.cells #[.int .i64 a.1, .int .i64 a.2.1, .int .i64 a.2.2] 26)) 26 #[.int .i64 b.1, .int .i64 b.2.1, .int .i64 b.2.2]
    simp only [World.size_alloc] at Ob
    have LW := bel_alloc (bel_alloc L1 (.cells #[.int .i64 a.1, .int .i64 a.2.1, .int .i64 a.2.2] 26)) (.cells #[.int .i64 b.1, .int .i64 b.2.1, .int .i64 b.2.2] 26)
    go_wp2_with fail
    refine (HI.out _).mono ?_
    rintro e w2 ⟨rfl, hbw2⟩
    have Oa_w2 := Oa.below hbw2
    have qOa := Oa_w2.cell
    have kOa := Oa_w2.lt
    have Ob_w2 := Ob.below hbw2
    have qOb := Ob_w2.cell
    have kOb := Ob_w2.lt
    have L2 := bel_trans LW hbw2
    clear Oa Ob LW hbw2
    go_wp2_with fail
    have Ov := Own.new w2 26 #[.int .i64 V.1, .int .i64 V.2.1, .int .i64 V.2.2]
    refine (HS.out _).mono ?_
    rintro e w3 ⟨rfl, hbw3⟩
    have Oa_w3 := (Oa_w2.alloc (.cells #[.int .i64 V.1, .int .i64 V.2.1, .int .i64 V.2.2] 26)).below hbw3
    have qOa := Oa_w3.cell
    have kOa := Oa_w3.lt
    have Ob_w3 := (Ob_w2.alloc (.cells #[.int .i64 V.1, .int .i64 V.2.1, .int .i64 V.2.2] 26)).below hbw3
    have qOb := Ob_w3.cell
    have kOb := Ob_w3.lt
    have Ov_w3 := Ov.below hbw3
    have qOv := Ov_w3.cell
    have kOv := Ov_w3.lt
    have L3 := bel_trans (bel_alloc L2 (.cells #[.int .i64 V.1, .int .i64 V.2.1, .int .i64 V.2.2] 26)) hbw3
    clear Oa_w2 Ob_w2 Ov L2 hbw3
    have Lz := bel_alloc L3 (.cells #[.int .i64 V.1, .int .i64 V.2.1, .int .i64 V.2.2] 26)
    cases bb
    · go_wp2_with fail
      go_ret
      exact ⟨rfl, Lz⟩
    · go_wp2_with fail
      obtain ⟨HN1, HM2, HN2⟩ := HF.out (by simp)
      have HN1 := Lib.hid HN1
      have HM2 := Lib.hid HM2
      have HN2 := Lib.hid HN2
      refine (HN1.out _).mono ?_
      rintro e w4 ⟨rfl, hbw4⟩
      have Oa_w4 := (Oa_w3.alloc (.cells #[.int .i64 V.1, .int .i64 V.2.1, .int .i64 V.2.2] 26)).below hbw4
      have qOa := Oa_w4.cell
      have kOa := Oa_w4.lt
      have Ov_w4 := (Ov_w3.alloc (.cells #[.int .i64 V.1, .int .i64 V.2.1, .int .i64 V.2.2] 26)).below hbw4
      have qOv := Ov_w4.cell
      have kOv := Ov_w4.lt
      have L4 := bel_trans Lz hbw4
      clear Oa_w3 Ob_w3 Ov_w3 L3 Lz hbw4
      have Ox := Own.new w4 26 #[.int .i64 X.1, .int .i64 X.2.1, .int .i64 X.2.2]
      go_wp2_with fail
      refine (HM2.out _).mono ?_
      rintro e w5 ⟨rfl, hbw5⟩
      have Ov_w5 := (Ov_w4.alloc (.cells #[.int .i64 X.1, .int .i64 X.2.1, .int .i64 X.2.2] 26)).below hbw5
      have qOv := Ov_w5.cell
      have kOv := Ov_w5.lt
      have L5 := bel_trans (bel_alloc L4 (.cells #[.int .i64 X.1, .int .i64 X.2.1, .int .i64 X.2.2] 26)) hbw5
      clear Oa_w4 Ov_w4 L4 hbw5 Ox
      have Oz := Own.new w5 26 #[.int .i64 Z.1, .int .i64 Z.2.1, .int .i64 Z.2.2]
      go_wp2_with fail
      refine (HN2.out _).mono ?_
      rintro e w6 ⟨rfl, hbw6⟩
      have Oz_w6 := Oz.below hbw6
      have qOz := Oz_w6.cell
      have kOz := Oz_w6.lt
      have L6 := bel_trans (bel_alloc L5 (.cells #[.int .i64 Z.1, .int .i64 Z.2.1, .int .i64 Z.2.2] 26)) hbw6
      go_wp2_with fail
      go_ret
      exact ⟨rfl, (by repeat (first | exact Below.refl _ _ | assumption | refine bel_drewN ?_ _ | refine bel_drew ?_ | refine bel_alloc ?_ _ | refine bel_set ?_ (by simp; omega) _ | refine bel_set ?_ (by simp) _ | refine bel_trans ?_ (by assumption)))⟩

set_option maxRecDepth 100000 in
theorem lifted (os : Os) (started : os.Started) (H : Type) (enc : TypeId × Value → H) :
    ReturnsInHanded {} Try.checked os 4 .any (Rows.fnRootMulNegSpec.pre6 enc Try.prog Try.f4 Rows.fnRootMulNegRow.domain false) (Rows.fnRootMulNegSpec.post enc Try.prog Try.f4 false true false false) := by
  refine returnsInHanded_of_change (C := Try.checked) own started (by kernel_rfl) Try.func4
    (ChangeSpec.witness6 (enc := enc) (C := Try.checked) false ⟨#[], #[.slice none 0 0], []⟩ 8 (by kernel_rfl) (by kernel_rfl) (by kernel_rfl) (by kernel_rfl)) ?_
  intro W base args ds gs before hval0 hW hcnd _
  have hval : ∀ (j : Nat) t v, Try.f4.params[j]? = some t → args[j]? = some v → Value.okWide Try.prog W .any base t v := hval0
  have hW' := hW
  have hlt := hW.lt
  obtain ⟨p, q, hA0, hV, rfl, hfz, hnd⟩ := hW
  have hA : DataW.TrodAll enc Try.prog W 0 (fun _ => true) true Try.f4.params.toList args.toList ds p := hA0
  rw [Try.params4] at hA hval
  obtain ⟨v0, vs0, d0, ds0, p0, q0, hargs, rfl, rfl, h0, r0⟩ := trodAll_cons hA
  obtain ⟨rfl, rfl, rfl⟩ := trodAll_nil r0
  obtain rfl : args = #[v0] := by cases args; simp_all
  obtain ⟨rfl, rfl⟩ := trodVars_none hV
  clear hA0 hval0 hA hfz hnd
  obtain ⟨a0, n0, c0, rfl, hnc0, hcm0, hb0⟩ := open_bytes Try.underlying22 Try.underlying5 (by kernel_rfl) (hval 0 22 v0 rfl rfl) h0 (fun x hx => hlt x (by simp [hx]))
  exact law_close laidOut (by kernel_rfl) rfl Try.underlying4 rfl rfl hW' (walk a0 n0 c0 W hnc0 hcm0 hb0)

theorem over : Rows.fnRootMulNegRow.holds Try.pinned (OpenSpec.ofChange Rows.fnRootMulNegSpec) :=
  OpenClaim.holds_of_wide 4 Try.f4 rfl rfl rfl rfl rfl rfl rfl ⟨rfl, rfl, rfl, rfl, rfl⟩ rfl rfl rfl rfl rfl (by kernel_rfl) Try.func4 (by kernel_rfl)
    (of_decide_eq_true (by kernel_rfl)) (by unfold Func.isWrapper; first | (rw [if_pos (by decide +kernel)]; kernel_rfl) | (rw [if_neg (by decide +kernel)]; exact ⟨rfl, rfl⟩))
    (fun os started H enc _ => lifted os started H enc)

theorem proved : Rows.FnRootMulNegSaid := over

end Go.Proofs.Ytefddmfnjneegaa.fnRootMulNeg
