/- Shells are filled in order: the law returns true for all bytes. No condition. -/
import Derived.Test.YtgemocbpfbdnmaaImplGround
import Derived.Test.YtgemocbpfbdnmaaGroundTab
import Derived.Test.YtgemocbpfbdnmaaLaws7
namespace Go.Proofs.Ytgemocbpfbdnmaa.fnGroundOrder
open Go.ChangeShapes Go.WideShapes Go.ChangeAt Go.RowKit Go.Deep Go.Joins
set_option linter.unusedVariables false
set_option maxRecDepth 100000

set_option maxHeartbeats 2000000 in
theorem walk (a : Option Addr) (n c : Nat) (W : World) (hnc : n ≤ c) (hcm : c ≤ maxLen) (hb : Bytes W W.heap.size a n) :
    Calls Try.prog 4 #[.slice a n c] W fun e W' => e = .returned (.bool true) ∧ Below W.heap.size W W' := by
  have hcm' := hcm
  unfold maxLen at hcm'
  by_cases hn : 1048576 < n
  · go_enter Try.func4, Try.ntmps4
    go_wp2_with fail
    go_ret
    exact ⟨rfl, (by repeat (first | exact Below.refl _ _ | assumption | refine bel_drewN ?_ _ | refine bel_drew ?_ | refine bel_alloc ?_ _ | refine bel_set ?_ (by simp; omega) _ | refine bel_set ?_ (by simp) _ | refine bel_trans ?_ (by assumption)))⟩
  · go_enter Try.func4, Try.ntmps4
    go_wp2_with fail
    refine (draw_ground _ _ _ _ hnc hcm hb).mono ?_
    rintro e w1 ⟨z, rfl, hz, hw1⟩
    clear hb
    have HS := Lib.hid (fun w => spec_ground z w)
    have HI := Lib.hid (fun w => impl_ground z w)
    have HO := Lib.hid (fun h0 h1 k hk => @GL_ord z h0 h1 k hk)
    have HB := Lib.hid (fun h => (@inB_true z 1 118).1 h)
    have hle := GL_len z
    generalize GL z = l at *
    generalize inB z 1 118 = b at *
    go_wp2_with fail
    refine (HI.out _).mono ?_
    rintro e w2 ⟨v1, rfl, Q2, hb2⟩
    have L2 := bel_trans hw1 hb2
    clear hw1 hb2
    go_wp2_with fail
    refine (HS.out _).mono ?_
    rintro e w3 ⟨v0, rfl, P3, hb3⟩
    have L3 := bel_trans L2 hb3
    have Q3 := Q2.below hb3
    clear L2 hb3 Q2
    cases b
    · go_wp2_with fail
      refine (same_shells _ _ l _ Q3.at_ P3.at_).mono ?_
      rintro e w4 ⟨rfl, hb4⟩
      have P4 := P3.below hb4
      have Q4 := Q3.below hb4
      have L4 := bel_trans L3 hb4
      clear P3 Q3 L3 hb4
      go_wp2_with fail
      refine (same_shells _ _ l _ Q4.at_ P4.at_).mono ?_
      rintro e w5 ⟨rfl, hb5⟩
      go_wp2_with fail
      go_ret
      exact ⟨rfl, bel_trans L4 hb5⟩
    · have hzb := HB.out rfl
      have ho := HO.out hzb.1 hzb.2
      have HA := Lib.hid (fun w k => impl_at k w)
      go_wp2_with fail
      refine (same_shells _ _ l _ Q3.at_ P3.at_).mono ?_
      rintro e w4 ⟨rfl, hb4⟩
      have Q4 := Q3.below hb4
      have L4 := bel_trans L3 hb4
      clear P3 Q3 L3 hb4
      go_wp2_with fail
      go_loopg [8, 9] 19 (fun gk x i wr => ∃ k : Nat, gk = 19 - k ∧ k ≤ 19 ∧ i = .int .i64 k ∧ x = .bool (ordB l k) ∧ Below w4.heap.size w4 wr)
      case atStart => exact ⟨0, rfl, by omega, rfl, rfl, Below.refl _ _⟩
      case round =>
        obtain ⟨k, rfl, hk, rfl, rfl, hbel⟩ := hrel
        by_cases hlt : k < 19
        · have hlt' : (k : Int) < 19 := by omega
          have hok := ho k hlt
          have hss : ordB l (k + 1) = (ordB l k || decide (elAt l (order.getD k sh0).1 (order.getD k sh0).2.1 < (order.getD k sh0).2.2)) := rfl
          obtain ⟨ha, hib⟩ := atSh_get hlt
          rw [← ha] at hok hss
          have hat := fun w => HA.out w (k : Int)
          unfold AtEnd at hat
          rw [hib] at hat
          have HAT := Lib.hid hat
          clear hat
          generalize atSh (k : Int) = s at *
          have HEL := Lib.hid (fun w hv => el_at _ l s.1 s.2.1 w (hv : ShAt w w.heap.size v1 l))
          clear ha hib
          generalize elAt l s.1 s.2.1 = x at *
          generalize ordB l k = op at *
          have HT := Lib.hid hss
          clear hss
          cases op
          · by_cases hx : x < s.2.2
            · go_wp2_with fail
              refine (HAT.out _).mono ?_
              rintro e w5 ⟨rfl, hb5⟩
              have hb6 := bel_alloc (bel_trans hbel hb5) (.cells #[.int .i64 s.1, .int .i64 s.2.1, .int .i64 s.2.2] 29)
              go_wp2_with fail
              refine (HEL.out _ (Q4.below hb6).at_).mono ?_
              rintro e w6 ⟨rfl, hb7⟩
              have O6 := (Own.new w5 29 #[.int .i64 s.1, .int .i64 s.2.1, .int .i64 s.2.2]).below hb7
              have q2 := O6.cell 2
              have q3 := O6.lt
              go_wp2_with fail
              go_roundg (19 - (k + 1))
              case measure => omega
              case rel => exact ⟨k + 1, rfl, by omega, by go_num, by rw [HT.out]; simp [hx], bel_trans hb6 hb7⟩
            · go_wp2_with fail
              refine (HAT.out _).mono ?_
              rintro e w5 ⟨rfl, hb5⟩
              have hb6 := bel_alloc (bel_trans hbel hb5) (.cells #[.int .i64 s.1, .int .i64 s.2.1, .int .i64 s.2.2] 29)
              go_wp2_with fail
              refine (HEL.out _ (Q4.below hb6).at_).mono ?_
              rintro e w6 ⟨rfl, hb7⟩
              have O6 := (Own.new w5 29 #[.int .i64 s.1, .int .i64 s.2.1, .int .i64 s.2.2]).below hb7
              have q2 := O6.cell 2
              have q3 := O6.lt
              go_wp2_with fail
              go_roundg (19 - (k + 1))
              case measure => omega
              case rel => exact ⟨k + 1, rfl, by omega, by go_num, by rw [HT.out]; simp [hx], bel_trans hb6 hb7⟩
          · have hx0 : decide (0 < x) = false := by simpa using hok
            clear hok
            go_wp2_with fail
            refine (HAT.out _).mono ?_
            rintro e w5 ⟨rfl, hb5⟩
            have hb6 := bel_alloc (bel_trans hbel hb5) (.cells #[.int .i64 s.1, .int .i64 s.2.1, .int .i64 s.2.2] 29)
            go_wp2_with fail
            refine (HEL.out _ (Q4.below hb6).at_).mono ?_
            rintro e w6 ⟨rfl, hb7⟩
            go_wp2_with fail
            go_roundg (19 - (k + 1))
            case measure => omega
            case rel => exact ⟨k + 1, rfl, by omega, by go_num, by rw [HT.out]; rfl, bel_trans hb6 hb7⟩
        · go_wp2_with fail
          go_ret
          exact ⟨rfl, bel_trans L4 hbel⟩

set_option maxRecDepth 100000 in
theorem lifted (os : Os) (started : os.Started) (H : Type) (enc : TypeId × Value → H) :
    ReturnsInHanded {} Try.checked os 4 .any (Rows.fnGroundOrderSpec.pre6 enc Try.prog Try.f4 Rows.fnGroundOrderRow.domain false) (Rows.fnGroundOrderSpec.post enc Try.prog Try.f4 false true false false) := by
  refine returnsInHanded_of_change (C := Try.checked) own started (by kernel_rfl) Try.func4
    (ChangeSpec.witness6 (enc := enc) (C := Try.checked) false ⟨#[], #[.slice none 0 0], []⟩ 8 (by kernel_rfl) (by kernel_rfl) (by kernel_rfl) (by kernel_rfl)) ?_
  intro W base args ds gs before hval0 hW hcnd _
  have hval : ∀ (j : Nat) t v, Try.f4.params[j]? = some t → args[j]? = some v → Value.okWide Try.prog W .any base t v := hval0
  have hW' := hW
  have hlt := hW.lt
  obtain ⟨p, q, hA0, hV, rfl, hfz, hnd⟩ := hW
  have hA : DataW.TrodAll enc Try.prog W 0 (fun _ => true) true Try.f4.params.toList args.toList ds p := hA0
  rw [Try.params4] at hA hval
  obtain ⟨v0, vs0, d0, ds0, p0, q0, hargs, rfl, rfl, h0, r0⟩ := trodAll_cons hA
  obtain ⟨rfl, rfl, rfl⟩ := trodAll_nil r0
  obtain rfl : args = #[v0] := by cases args; simp_all
  obtain ⟨rfl, rfl⟩ := trodVars_none hV
  clear hA0 hval0 hA hfz hnd
  obtain ⟨a0, n0, c0, rfl, hnc0, hcm0, hb0⟩ := open_bytes Try.underlying22 Try.underlying5 (by kernel_rfl) (hval 0 22 v0 rfl rfl) h0 (fun x hx => hlt x (by simp [hx]))
  exact law_close laidOut (by kernel_rfl) rfl Try.underlying4 rfl rfl hW' (walk a0 n0 c0 W hnc0 hcm0 hb0)

theorem over : Rows.fnGroundOrderRow.holds Try.pinned (OpenSpec.ofChange Rows.fnGroundOrderSpec) :=
  OpenClaim.holds_of_wide 4 Try.f4 rfl rfl rfl rfl rfl rfl rfl ⟨rfl, rfl, rfl, rfl, rfl⟩ rfl rfl rfl rfl rfl (by kernel_rfl) Try.func4 (by kernel_rfl)
    (of_decide_eq_true (by kernel_rfl)) (by unfold Func.isWrapper; first | (rw [if_pos (by decide +kernel)]; kernel_rfl) | (rw [if_neg (by decide +kernel)]; exact ⟨rfl, rfl⟩))
    (fun os started H enc _ => lifted os started H enc)

theorem proved : Rows.FnGroundOrderSaid := over

end Go.Proofs.Ytgemocbpfbdnmaa.fnGroundOrder
