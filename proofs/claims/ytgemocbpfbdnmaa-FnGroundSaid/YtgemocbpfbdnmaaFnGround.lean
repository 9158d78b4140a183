/- All electrons of a ground configuration have a place: the law returns true for all bytes. No condition. -/
import Derived.Test.YtgemocbpfbdnmaaImplGround
import Derived.Test.YtgemocbpfbdnmaaGroundTab
import Derived.Test.YtgemocbpfbdnmaaLaws7
namespace Go.Proofs.Ytgemocbpfbdnmaa.fnGround
open Go.ChangeShapes Go.WideShapes Go.ChangeAt Go.RowKit Go.Deep Go.Joins
set_option linter.unusedVariables false
set_option maxRecDepth 100000

set_option maxHeartbeats 2000000 in
theorem walk (a : Option Addr) (n c : Nat) (W : World) (hnc : n ≤ c) (hcm : c ≤ maxLen) (hb : Bytes W W.heap.size a n) :
    Calls Try.prog 7 #[.slice a n c] W fun e W' => e = .returned (.bool true) ∧ Below W.heap.size W W' := by
  have hcm' := hcm
  unfold maxLen at hcm'
  by_cases hn : 1048576 < n
  · go_enter Try.func7, Try.ntmps7
    go_wp2_with fail
    go_ret
    exact ⟨rfl, (by repeat (first | exact Below.refl _ _ | assumption | refine bel_drewN ?_ _ | refine bel_drew ?_ | refine bel_alloc ?_ _ | refine bel_set ?_ (by simp; omega) _ | refine bel_set ?_ (by simp) _ | refine bel_trans ?_ (by assumption)))⟩
  · go_enter Try.func7, Try.ntmps7
    go_wp2_with fail
    refine (draw_ground _ _ _ _ hnc hcm hb).mono ?_
    rintro e w1 ⟨z, rfl, hz, hw1⟩
    clear hb
    have HS := Lib.hid (fun w => spec_ground z w)
    have HI := Lib.hid (fun w => impl_ground z w)
    have HV := Lib.hid (fun h0 h1 => @GL_cfg z h0 h1)
    have HE := Lib.hid (fun h0 h1 => @GL_el z h0 h1)
    have HB := Lib.hid (fun h => (@inB_true z 1 118).1 h)
    have hle := GL_len z
    generalize GL z = l at *
    generalize inB z 1 118 = b at *
    go_wp2_with fail
    refine (HI.out _).mono ?_
    rintro e w2 ⟨v1, rfl, Q2, hb2⟩
    have L2 := bel_trans hw1 hb2
    clear hw1 hb2
    go_wp2_with fail
    refine (HS.out _).mono ?_
    rintro e w3 ⟨v0, rfl, P3, hb3⟩
    have L3 := bel_trans L2 hb3
    have Q3 := Q2.below hb3
    clear L2 hb3 Q2
    cases b
    · go_wp2_with fail
      refine (same_shells _ _ l _ Q3.at_ P3.at_).mono ?_
      rintro e w4 ⟨rfl, hb4⟩
      have P4 := P3.below hb4
      have Q4 := Q3.below hb4
      have L4 := bel_trans L3 hb4
      clear P3 Q3 L3 hb4
      go_wp2_with fail
      refine (same_shells _ _ l _ Q4.at_ P4.at_).mono ?_
      rintro e w5 ⟨rfl, hb5⟩
      go_wp2_with fail
      go_ret
      exact ⟨rfl, bel_trans L4 hb5⟩
    · have hzb := HB.out rfl
      obtain ⟨hcf, hop⟩ := HV.out hzb.1 hzb.2
      have hel := HE.out hzb.1 hzb.2
      have hop' : ((openL l).length : Int) ≤ 1 := by omega
      go_wp2_with fail
      refine (same_shells _ _ l _ Q3.at_ P3.at_).mono ?_
      rintro e w4 ⟨rfl, hb4⟩
      have Q4 := Q3.below hb4
      have L4 := bel_trans L3 hb4
      clear P3 Q3 L3 hb4
      go_wp2_with fail
      refine (impl_cfg _ l _ Q4.at_).mono ?_
      rintro e w5 ⟨rfl, hb5⟩
      have Q5 := Q4.below hb5
      have L5 := bel_trans L4 hb5
      clear Q4 L4 hb5
      rw [hcf]
      go_wp2_with fail
      refine (impl_el _ l _ Q5.at_ (by omega)).mono ?_
      rintro e w6 ⟨rfl, hb6⟩
      have Q6 := Q5.below hb6
      have L6 := bel_trans L5 hb6
      clear Q5 L5 hb6
      rw [hel]
      go_wp2_with fail
      refine (impl_open _ l _ Q6.at_ (by omega)).mono ?_
      rintro e w7 ⟨v2, rfl, Q7, hb7⟩
      have L7 := bel_trans L6 hb7
      have ha := Q7.at_
      obtain ⟨A, c2, rfl, _⟩ := ha
      generalize (openL l).length = ol at *
      go_wp2_with fail
      go_ret
      exact ⟨rfl, L7⟩

set_option maxRecDepth 100000 in
theorem lifted (os : Os) (started : os.Started) (H : Type) (enc : TypeId × Value → H) :
    ReturnsInHanded {} Try.checked os 7 .any (Rows.fnGroundSpec.pre6 enc Try.prog Try.f7 Rows.fnGroundRow.domain false) (Rows.fnGroundSpec.post enc Try.prog Try.f7 false true false false) := by
  refine returnsInHanded_of_change (C := Try.checked) own started (by kernel_rfl) Try.func7
    (ChangeSpec.witness6 (enc := enc) (C := Try.checked) false ⟨#[], #[.slice none 0 0], []⟩ 8 (by kernel_rfl) (by kernel_rfl) (by kernel_rfl) (by kernel_rfl)) ?_
  intro W base args ds gs before hval0 hW hcnd _
  have hval : ∀ (j : Nat) t v, Try.f7.params[j]? = some t → args[j]? = some v → Value.okWide Try.prog W .any base t v := hval0
  have hW' := hW
  have hlt := hW.lt
  obtain ⟨p, q, hA0, hV, rfl, hfz, hnd⟩ := hW
  have hA : DataW.TrodAll enc Try.prog W 0 (fun _ => true) true Try.f7.params.toList args.toList ds p := hA0
  rw [Try.params7] at hA hval
  obtain ⟨v0, vs0, d0, ds0, p0, q0, hargs, rfl, rfl, h0, r0⟩ := trodAll_cons hA
  obtain ⟨rfl, rfl, rfl⟩ := trodAll_nil r0
  obtain rfl : args = #[v0] := by cases args; simp_all
  obtain ⟨rfl, rfl⟩ := trodVars_none hV
  clear hA0 hval0 hA hfz hnd
  obtain ⟨a0, n0, c0, rfl, hnc0, hcm0, hb0⟩ := open_bytes Try.underlying22 Try.underlying5 (by kernel_rfl) (hval 0 22 v0 rfl rfl) h0 (fun x hx => hlt x (by simp [hx]))
  exact law_close laidOut (by kernel_rfl) rfl Try.underlying4 rfl rfl hW' (walk a0 n0 c0 W hnc0 hcm0 hb0)

theorem over : Rows.fnGroundRow.holds Try.pinned (OpenSpec.ofChange Rows.fnGroundSpec) :=
  OpenClaim.holds_of_wide 7 Try.f7 rfl rfl rfl rfl rfl rfl rfl ⟨rfl, rfl, rfl, rfl, rfl⟩ rfl rfl rfl rfl rfl (by kernel_rfl) Try.func7 (by kernel_rfl)
    (of_decide_eq_true (by kernel_rfl)) (by unfold Func.isWrapper; first | (rw [if_pos (by decide +kernel)]; kernel_rfl) | (rw [if_neg (by decide +kernel)]; exact ⟨rfl, rfl⟩))
    (fun os started H enc _ => lifted os started H enc)

theorem proved : Rows.FnGroundSaid := over

end Go.Proofs.Ytgemocbpfbdnmaa.fnGround
