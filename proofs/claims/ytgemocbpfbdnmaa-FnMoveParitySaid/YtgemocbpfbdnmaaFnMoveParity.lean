/- Parity changes with the orbital numbers: the law returns true for all bytes. No condition. -/
import Derived.Test.YtgemocbpfbdnmaaMoveLaw
import Derived.Test.YtgemocbpfbdnmaaDrawMove
import Derived.Test.YtgemocbpfbdnmaaSameSh
namespace Go.Proofs.Ytgemocbpfbdnmaa.fnMoveParity
open Go.ChangeShapes Go.WideShapes Go.ChangeAt Go.RowKit Go.Deep Go.Joins
set_option linter.unusedVariables false
set_option maxRecDepth 100000

set_option maxHeartbeats 4000000 in
theorem walk (a : Option Addr) (n0 c0 : Nat) (W : World) (hnc : n0 ≤ c0) (hcm : c0 ≤ maxLen) (hb : Bytes W W.heap.size a n0) :
    Calls Try.prog 11 #[.slice a n0 c0] W fun e W' => e = .returned (.bool true) ∧ Below W.heap.size W W' := by
  have hcm' := hcm
  unfold maxLen at hcm'
  by_cases hn : 1048576 < n0
  · go_enter Try.func11, Try.ntmps11
    go_wp2_with fail
    go_ret
    exact ⟨rfl, (by repeat (first | exact Below.refl _ _ | assumption | refine bel_drewN ?_ _ | refine bel_drew ?_ | refine bel_alloc ?_ _ | refine bel_set ?_ (by simp; omega) _ | refine bel_set ?_ (by simp) _ | refine bel_trans ?_ (by assumption)))⟩
  · go_enter Try.func11, Try.ntmps11
    go_wp2_with fail
    refine (draw_move _ _ _ _ hnc hcm hb).mono ?_
    rintro e w1 ⟨vc, c, n, l, k, m, rfl, hcl, hc1, hw1, hcb, hk0, hk1, hm0, hm1⟩
    clear hb
    have hok1 : cfgB c = true → okKey (n, l) := fun h => by have := hcb h; unfold okKey; dsimp only; omega
    have hok2 : okKey (k, m) := by unfold okKey; dsimp only; omega
    have HCB := Lib.hid hcb
    clear hcb
    go_wp2_with fail
    refine (impl_move _ c n l k m _ _ hc1 (by omega) hok1 hok2).mono ?_
    rintro e w2 ⟨v1, r, b, rfl, Q2, hb2, hR, hrl⟩
    have C2 := hc1.below hb2
    have L2 := bel_trans hw1 hb2
    clear hc1 hw1 hb2
    go_wp2_with fail
    refine (spec_move _ c n l k m _ _ C2 (by omega)).mono ?_
    rintro e w3 ⟨v0, r', b', rfl, P3, hb3, hR', _⟩
    obtain ⟨e1, e2⟩ := hR.uniq hR'
    subst e1 e2
    have C3 := C2.below hb3
    have L3 := bel_trans L2 hb3
    have Q3 := Q2.below hb3
    have HR := Lib.hid hR
    have HK1 := Lib.hid hok1
    have HK2 := Lib.hid hok2
    clear L2 hb3 Q2 C2 hR hR' hok1 hok2
    cases b
    · go_wp2_with fail
      refine (same_shells _ _ r _ Q3.at_ P3.at_).mono ?_
      rintro e w4 ⟨rfl, hb4⟩
      have P4 := P3.below hb4
      have Q4 := Q3.below hb4
      have L4 := bel_trans L3 hb4
      clear P3 Q3 L3 hb4
      go_wp2_with fail
      refine (same_shells _ _ r _ Q4.at_ P4.at_).mono ?_
      rintro e w5 ⟨rfl, hb5⟩
      go_wp2_with fail
      go_ret
      exact ⟨rfl, bel_trans L4 hb5⟩
    · go_wp2_with fail
      refine (same_shells _ _ r _ Q3.at_ P3.at_).mono ?_
      rintro e w4 ⟨rfl, hb4⟩
      have Q4 := Q3.below hb4
      have C4 := C3.below hb4
      have L4 := bel_trans L3 hb4
      clear P3 Q3 C3 L3 hb4
      have hpa := move_pa HR.out
      have hyes := move_yes HR.out
      have hbd := HCB.out hyes.1
      have HPA := Lib.hid hpa
      have ew : IntKind.i64.wrap (l + m) = l + m := IntWalk.i64_in _ (by omega)
      have et : (l + m).tmod 2 = (l + m) % 2 := Int.tmod_eq_emod_of_nonneg (by omega)
      clear hpa hyes
      go_wp2_with fail
      refine (impl_pa _ r _ Q4.at_ (by omega)).mono ?_
      rintro e w5 ⟨rfl, hb5⟩
      have Q5 := Q4.below hb5
      have C5 := C4.below hb5
      have L5 := bel_trans L4 hb5
      clear Q4 C4 L4 hb5
      go_wp2_with fail
      refine (impl_pa _ c _ C5.at_ (by omega)).mono ?_
      rintro e w6 ⟨rfl, hb6⟩
      have Q6 := Q5.below hb6
      have C6 := C5.below hb6
      have L6 := bel_trans L5 hb6
      clear Q5 C5 L5 hb6
      have hpa := HPA.out
      generalize paB r = x at *
      generalize paB c = y at *
      generalize (l + m) % 2 = z at *
      cases hz : z == 1
      all_goals
        rw [hz] at hpa
        go_wp2_with fail
        go_ret
        exact ⟨rfl, L6⟩

set_option maxRecDepth 100000 in
theorem lifted (os : Os) (started : os.Started) (H : Type) (enc : TypeId × Value → H) :
    ReturnsInHanded {} Try.checked os 11 .any (Rows.fnMoveParitySpec.pre6 enc Try.prog Try.f11 Rows.fnMoveParityRow.domain false) (Rows.fnMoveParitySpec.post enc Try.prog Try.f11 false true false false) := by
  refine returnsInHanded_of_change (C := Try.checked) own started (by kernel_rfl) Try.func11
    (ChangeSpec.witness6 (enc := enc) (C := Try.checked) false ⟨#[], #[.slice none 0 0], []⟩ 8 (by kernel_rfl) (by kernel_rfl) (by kernel_rfl) (by kernel_rfl)) ?_
  intro W base args ds gs before hval0 hW hcnd _
  have hval : ∀ (j : Nat) t v, Try.f11.params[j]? = some t → args[j]? = some v → Value.okWide Try.prog W .any base t v := hval0
  have hW' := hW
  have hlt := hW.lt
  obtain ⟨p, q, hA0, hV, rfl, hfz, hnd⟩ := hW
  have hA : DataW.TrodAll enc Try.prog W 0 (fun _ => true) true Try.f11.params.toList args.toList ds p := hA0
  rw [Try.params11] at hA hval
  obtain ⟨v0, vs0, d0, ds0, p0, q0, hargs, rfl, rfl, h0, r0⟩ := trodAll_cons hA
  obtain ⟨rfl, rfl, rfl⟩ := trodAll_nil r0
  obtain rfl : args = #[v0] := by cases args; simp_all
  obtain ⟨rfl, rfl⟩ := trodVars_none hV
  clear hA0 hval0 hA hfz hnd
  obtain ⟨a0, n0, c0, rfl, hnc0, hcm0, hb0⟩ := open_bytes Try.underlying22 Try.underlying5 (by kernel_rfl) (hval 0 22 v0 rfl rfl) h0 (fun x hx => hlt x (by simp [hx]))
  exact law_close laidOut (by kernel_rfl) rfl Try.underlying4 rfl rfl hW' (walk a0 n0 c0 W hnc0 hcm0 hb0)

theorem over : Rows.fnMoveParityRow.holds Try.pinned (OpenSpec.ofChange Rows.fnMoveParitySpec) :=
  OpenClaim.holds_of_wide 11 Try.f11 rfl rfl rfl rfl rfl rfl rfl ⟨rfl, rfl, rfl, rfl, rfl⟩ rfl rfl rfl rfl rfl (by kernel_rfl) Try.func11 (by kernel_rfl)
    (of_decide_eq_true (by kernel_rfl)) (by unfold Func.isWrapper; first | (rw [if_pos (by decide +kernel)]; kernel_rfl) | (rw [if_neg (by decide +kernel)]; exact ⟨rfl, rfl⟩))
    (fun os started H enc _ => lifted os started H enc)

theorem proved : Rows.FnMoveParitySaid := over

end Go.Proofs.Ytgemocbpfbdnmaa.fnMoveParity
