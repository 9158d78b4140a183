/- ConfigGround of the program and of the reference return the same in memory of its own, for all arguments. No condition. -/
import Derived.Test.YtgemocbpfbdnmaaImplGround
import Derived.Test.YtgemocbpfbdnmaaLaws7
namespace Go.Proofs.Ytgemocbpfbdnmaa.fnExactConfigGround
open Go.ChangeShapes Go.WideShapes Go.ChangeAt Go.RowKit Go.Deep Go.Joins
set_option linter.unusedVariables false
set_option maxRecDepth 100000

set_option maxHeartbeats 2000000 in
theorem walk (z : Int) (W : World) (hz : -9223372036854775808 ≤ z ∧ z ≤ 9223372036854775807) :
    Calls Try.prog 5 #[.int .i64 z] W fun e W' => e = .returned (.bool true) ∧ Below W.heap.size W W' := by
  have HS := Lib.hid (fun w => spec_ground z w)
  have HI := Lib.hid (fun w => impl_ground z w)
  have hle := GL_len z
  clear hz
  generalize GL z = l at *
  generalize inB z 1 118 = b at *
  cases b
  all_goals
    go_enter Try.func5, Try.ntmps5
    go_wp2_with fail
    refine (HS.out _).mono ?_
    rintro e w2 ⟨v0, rfl, P2, hb2⟩
    have B2 := blk P2
    go_wp2_with fail
    refine (HI.out _).mono ?_
    rintro e w4 ⟨v1, rfl, Q4, hb4⟩
    have P4 := P2.below hb4
    have L4 := bel_trans hb2 hb4
    have hz4 := hb4.size
    have hz2 := hb2.size
    clear hb4 hb2 P2
    go_wp2_with fail
    refine (eq_shells _ _ l _ Q4.at_ P4.at_).mono ?_
    rintro e w5 ⟨rfl, hb5⟩
    have P5 := P4.below hb5
    have Q5 := Q4.below hb5
    have L5 := bel_trans L4 hb5
    clear P4 Q4 L4 hb5
    go_wp2_with fail
    refine (mark_shells _ _ _ _ (toFree Q5) (by omega)).mono ?_
    rintro e w10 ⟨rfl, hg10, M10⟩
    have hz10 := hg10.size
    have P10 := P5.kept hg10 (ne_blk fun k hk e => by have := B2 k hk; have := (blk Q5) k e; omega)
    have L10 := L5.grown hg10 L5.size (fun k e => by have := (blk Q5) k e; have := L5.size; omega)
    have M10 := M10.more hz10
    clear P5 Q5 L5 hg10 hz10
    go_wp2_with fail
    refine (held_shells _ _ _ M10 (by omega)).mono ?_
    rintro e w' ⟨rfl, rfl⟩
    go_wp2_with fail
    refine (HI.out _).mono ?_
    rintro e w12 ⟨v2, rfl, Q12, hb12⟩
    have P12 := P10.below hb12
    have M12 := M10.bel hb12
    have L12 := bel_trans L10 hb12
    clear P10 M10 L10 hb12
    go_wp2_with fail
    refine (eq_shells _ _ l _ Q12.at_ P12.at_).mono ?_
    rintro e w13 ⟨rfl, hb13⟩
    have M13 := M12.bel hb13
    have L13 := bel_trans L12 hb13
    clear P12 M12 L12 hb13 Q12
    go_wp2_with fail
    refine (held_shells _ _ _ M13 (by omega)).mono ?_
    rintro e w' ⟨rfl, rfl⟩
    go_wp2_with fail
    go_ret
    exact ⟨rfl, L13⟩

set_option maxRecDepth 100000 in
theorem lifted (os : Os) (started : os.Started) (H : Type) (enc : TypeId × Value → H) :
    ReturnsInHanded {} Try.checked os 5 .any (Rows.fnExactConfigGroundSpec.pre6 enc Try.prog Try.f5 Rows.fnExactConfigGroundRow.domain false) (Rows.fnExactConfigGroundSpec.post enc Try.prog Try.f5 false true false false) := by
  refine returnsInHanded_of_change (C := Try.checked) own started (by kernel_rfl) Try.func5
    (ChangeSpec.witness6 (enc := enc) (C := Try.checked) false ⟨#[], #[.int .i64 0], []⟩ 8 (by kernel_rfl) (by kernel_rfl) (by kernel_rfl) (by kernel_rfl)) ?_
  intro W base args ds gs before hval0 hW hcnd _
  have hval : ∀ (j : Nat) t v, Try.f5.params[j]? = some t → args[j]? = some v → Value.okWide Try.prog W .any base t v := hval0
  have hW' := hW
  have hlt := hW.lt
  obtain ⟨p, q, hA0, hV, rfl, hfz, hnd⟩ := hW
  have hA : DataW.TrodAll enc Try.prog W 0 (fun _ => true) true Try.f5.params.toList args.toList ds p := hA0
  rw [Try.params5] at hA hval
  obtain ⟨v0, vs0, d0, ds0, p0, q0, hargs, rfl, rfl, h0, r0⟩ := trodAll_cons hA
  obtain ⟨rfl, rfl, rfl⟩ := trodAll_nil r0
  obtain rfl : args = #[v0] := by cases args; simp_all
  obtain ⟨rfl, rfl⟩ := trodVars_none hV
  clear hA0 hval0 hA hfz hnd
  obtain ⟨a0, rfl, rfl, rfl, w0⟩ := open_int Try.underlying3 (hval 0 3 v0 rfl rfl) h0
  have b0 := int_bounds w0
  exact law_close laidOut (by kernel_rfl) rfl Try.underlying4 rfl rfl hW' (walk a0 W b0)

theorem over : Rows.fnExactConfigGroundRow.holds Try.pinned (OpenSpec.ofChange Rows.fnExactConfigGroundSpec) :=
  OpenClaim.holds_of_wide 5 Try.f5 rfl rfl rfl rfl rfl rfl rfl ⟨rfl, rfl, rfl, rfl, rfl⟩ rfl rfl rfl rfl rfl (by kernel_rfl) Try.func5 (by kernel_rfl)
    (of_decide_eq_true (by kernel_rfl)) (by unfold Func.isWrapper; first | (rw [if_pos (by decide +kernel)]; kernel_rfl) | (rw [if_neg (by decide +kernel)]; exact ⟨rfl, rfl⟩))
    (fun os started H enc _ => lifted os started H enc)

theorem proved : Rows.FnExactConfigGroundSaid := over

end Go.Proofs.Ytgemocbpfbdnmaa.fnExactConfigGround
