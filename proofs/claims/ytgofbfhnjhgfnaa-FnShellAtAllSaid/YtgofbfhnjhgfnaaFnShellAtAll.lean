/- Each shell is filled once: the law returns true for all bytes. No condition. -/
import Derived.Test.YtgofbfhnjhgfnaaSlices
import Derived.Test.YtgofbfhnjhgfnaaDraw
namespace Go.Proofs.Ytgofbfhnjhgfnaa.fnShellAtAll
open Go.ChangeShapes Go.WideShapes Go.ChangeAt Go.RowKit Go.Deep Go.Joins
set_option linter.unusedVariables false

set_option maxHeartbeats 1000000 in
theorem walk (a : Option Addr) (n c : Nat) (W : World) (hnc : n ≤ c) (hcm : c ≤ maxLen) (hb : Bytes W W.heap.size a n) :
    Calls Try.prog 11 #[.slice a n c] W fun e W' => e = .returned (.bool true) ∧ Below W.heap.size W W' := by
  have hcm' := hcm
  unfold maxLen at hcm'
  by_cases hn : 1048576 < n
  · go_enter Try.func11, Try.ntmps11
    go_wp2_with fail
    go_ret
    exact ⟨rfl, (by repeat (first | exact Below.refl _ _ | assumption | refine bel_drewN ?_ _ | refine bel_drew ?_ | refine bel_alloc ?_ _ | refine bel_set ?_ (by simp; omega) _ | refine bel_set ?_ (by simp) _ | refine bel_trans ?_ (by assumption)))⟩
  · go_enter Try.func11, Try.ntmps11
    go_wp2_with fail
    refine (draw_at _ _ _ _ hnc hcm hb).mono ?_
    rintro e w1 ⟨k, rfl, hk, hb1⟩
    obtain ⟨hk0, hk1⟩ := hk
    go_wp2_with fail
    refine (impl_at _ _).mono ?_
    rintro e w2 ⟨rfl, hb2⟩
    go_wp2_with fail
    refine (spec_at _ _).mono ?_
    rintro e w3 ⟨rfl, hb3⟩
    have O3 := (Own.new w2 33 #[.int .i64 (atSh k).1, .int .i64 (atSh k).2.1, .int .i64 (atSh k).2.2]).below hb3
    have q3 := O3.cell
    have l3 := O3.lt
    cases hv : inB k 0 18
    · clear hv
      go_wp2_with fail
      go_ret
      exact ⟨rfl, (by repeat (first | exact Below.refl _ _ | assumption | refine bel_drewN ?_ _ | refine bel_drew ?_ | refine bel_alloc ?_ _ | refine bel_set ?_ (by simp; omega) _ | refine bel_set ?_ (by simp) _ | refine bel_trans ?_ (by assumption)))⟩
    · have hkk := inB_true.1 hv
      obtain ⟨m, rfl⟩ := Int.eq_ofNat_of_zero_le hkk.1
      have hm : m < 19 := by omega
      have LW : Below W.heap.size W (w3.alloc (.cells #[.int .i64 (atSh m).1, .int .i64 (atSh m).2.1, .int .i64 (atSh m).2.2] 33)) := (by repeat (first | exact Below.refl _ _ | assumption | refine bel_drewN ?_ _ | refine bel_drew ?_ | refine bel_alloc ?_ _ | refine bel_set ?_ (by simp; omega) _ | refine bel_set ?_ (by simp) _ | refine bel_trans ?_ (by assumption)))
      have O4 := O3.alloc (.cells #[.int .i64 (atSh m).1, .int .i64 (atSh m).2.1, .int .i64 (atSh m).2.2] 33)
      clear hv hb1 hb2 hb3 O3
      go_wp2_with fail
      clear q3 l3
      have p0 : psum 0 = 0 := rfl
      go_loopg [8, 9] 19 (fun gk s i wr => ∃ j : Nat, gk = 19 - j ∧ j ≤ 19 ∧ i = .int .i64 j ∧ s = .int .i64 (psum j) ∧ Below W.heap.size W wr ∧ Own wr w2.heap.size 33 #[.int .i64 (atSh m).1, .int .i64 (atSh m).2.1, .int .i64 (atSh m).2.2])
      case atStart => exact ⟨0, rfl, by omega, rfl, by rw [p0], LW, O4⟩
      case round =>
        clear LW O4 p0
        obtain ⟨j, rfl, hj, rfl, rfl, LW, O4⟩ := hrel
        by_cases hlt : j < 19
        · have hin : inB (j : Int) 0 18 = true := inB_true.2 (by omega)
          have HI := Lib.hid hin
          have hap := Lib.hid (fun hne => apart_of hlt hm hne)
          have hps := psum_bd hlt
          have HP := Lib.hid (psum_succ j)
          have hc := shB_true.1 (stepOk_parts (stepOk_of (k := (j : Int)) (by omega) (by omega)) (by omega)).1
          have hc1 : 1 ≤ (atSh j).2.2 := by omega
          have hc2 : (atSh j).2.2 ≤ 14 := by omega
          clear hc
          clear hin
          go_wp2_with fail
          refine (impl_at _ _).mono ?_
          rintro e w5 ⟨rfl, hb5⟩
          rw [HI.out]
          have L5 := bel_trans LW hb5
          have O5 := O4.below hb5
          have q5 := O5.cell
          have l5 := O5.lt
          clear hb5 O4 LW
          by_cases hjm : j = m
          · have hne : ((j : Int) != (m : Int)) = false := by simp [hjm]
            clear hap hjm
            go_wp2_with fail
            go_roundg (19 - (j + 1))
            case measure => omega
            case rel => exact ⟨j + 1, rfl, by omega, by go_num, by rw [HP.out], bel_alloc L5 _, O5.alloc _⟩
          · have hne : ((j : Int) != (m : Int)) = true := by simp; omega
            have hap := hap.out hjm
            cases h1 : (atSh j).1 == (atSh m).1
            · clear hap
              go_wp2_with fail
              go_roundg (19 - (j + 1))
              case measure => omega
              case rel => exact ⟨j + 1, rfl, by omega, by go_num, by rw [HP.out], bel_alloc L5 _, O5.alloc _⟩
            · have hap := hap h1
              go_wp2_with fail
              go_roundg (19 - (j + 1))
              case measure => omega
              case rel => exact ⟨j + 1, rfl, by omega, by go_num, by rw [HP.out], bel_alloc L5 _, O5.alloc _⟩
        · have hj19 : j = 19 := by omega
          have hps : (psum j == 118) = true := by rw [hj19, psum_end]; rfl
          have hlt' : decide ((j : Int) < 19) = false := by simp; omega
          clear hj19
          go_wp2_with fail
          go_ret
          exact ⟨rfl, LW⟩

set_option maxRecDepth 100000 in
theorem lifted (os : Os) (started : os.Started) (H : Type) (enc : TypeId × Value → H) :
    ReturnsInHanded {} Try.checked os 11 .any (Rows.fnShellAtAllSpec.pre6 enc Try.prog Try.f11 Rows.fnShellAtAllRow.domain false) (Rows.fnShellAtAllSpec.post enc Try.prog Try.f11 false true false false) := by
  refine returnsInHanded_of_change (C := Try.checked) own started (by kernel_rfl) Try.func11
    (ChangeSpec.witness6 (enc := enc) (C := Try.checked) false ⟨#[], #[.slice none 0 0], []⟩ 8 (by kernel_rfl) (by kernel_rfl) (by kernel_rfl) (by kernel_rfl)) ?_
  intro W base args ds gs before hval0 hW hcnd _
  have hval : ∀ (j : Nat) t v, Try.f11.params[j]? = some t → args[j]? = some v → Value.okWide Try.prog W .any base t v := hval0
  have hW' := hW
  have hlt := hW.lt
  obtain ⟨p, q, hA0, hV, rfl, hfz, hnd⟩ := hW
  have hA : DataW.TrodAll enc Try.prog W 0 (fun _ => true) true Try.f11.params.toList args.toList ds p := hA0
  rw [Try.params11] at hA hval
  obtain ⟨v0, vs0, d0, ds0, p0, q0, hargs, rfl, rfl, h0, r0⟩ := trodAll_cons hA
  obtain ⟨rfl, rfl, rfl⟩ := trodAll_nil r0
  obtain rfl : args = #[v0] := by cases args; simp_all
  obtain ⟨rfl, rfl⟩ := trodVars_none hV
  clear hA0 hval0 hA hfz hnd
  obtain ⟨a0, n0, c0, rfl, hnc0, hcm0, hb0⟩ := open_bytes Try.underlying37 Try.underlying5 (by kernel_rfl) (hval 0 37 v0 rfl rfl) h0 (fun x hx => hlt x (by simp [hx]))
  exact law_close laidOut (by kernel_rfl) rfl Try.underlying4 rfl rfl hW' (walk a0 n0 c0 W hnc0 hcm0 hb0)

theorem over : Rows.fnShellAtAllRow.holds Try.pinned (OpenSpec.ofChange Rows.fnShellAtAllSpec) :=
  OpenClaim.holds_of_wide 11 Try.f11 rfl rfl rfl rfl rfl rfl rfl ⟨rfl, rfl, rfl, rfl, rfl⟩ rfl rfl rfl rfl rfl (by kernel_rfl) Try.func11 (by kernel_rfl)
    (of_decide_eq_true (by kernel_rfl)) (by unfold Func.isWrapper; first | (rw [if_pos (by decide +kernel)]; kernel_rfl) | (rw [if_neg (by decide +kernel)]; exact ⟨rfl, rfl⟩))
    (fun os started H enc _ => lifted os started H enc)

theorem proved : Rows.FnShellAtAllSaid := over
end Go.Proofs.Ytgofbfhnjhgfnaa.fnShellAtAll
