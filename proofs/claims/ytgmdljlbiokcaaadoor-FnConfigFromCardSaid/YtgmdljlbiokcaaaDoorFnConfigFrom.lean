/- What is read is valid: the law returns true for all bytes. No condition but the variables of the library that the row lists. -/
import Derived.Test.YtgmdljlbiokcaaaDoorConfFrom
import Derived.Test.YtgmdljlbiokcaaaDoorSameSh
import Derived.Test.YtgmdljlbiokcaaaDoorDrawCfFrom
namespace Go.Proofs.YtgmdljlbiokcaaaDoor.fnConfigFrom
open Go.ChangeShapes Go.WideShapes Go.ChangeAt Go.RowKit Go.Deep Go.Joins
set_option linter.unusedVariables false
set_option maxRecDepth 100000

theorem cf_as {s : ByteArray} {b : Bool} {l : List Sh} (hr : cfS s = (b, l)) {w w' : World} {e : Ending} (h : CfEnd s w e w') : ∃ v, e = .returned (.tuple #[v, .bool b]) ∧ OwnSh w' w.heap.size v l ∧ Below w.heap.size w w' := by
  unfold CfEnd at h
  rw [hr] at h
  exact h

set_option maxHeartbeats 4000000 in
theorem walk (A0 : Option Addr) (n0 c0 : Nat) (W : World) (hnc : n0 ≤ c0) (hcm : c0 ≤ maxLen) (hb : Bytes W W.heap.size A0 n0) (hE : HErr W) (hL : HLen W) :
    Calls Tryd.prog 8 #[.slice A0 n0 c0] W fun e W' => e = .returned (.bool true) ∧ Below W.heap.size W W' := by
  have hcm' := hcm
  unfold maxLen at hcm'
  by_cases hn : 1048576 < n0
  · go_enter Tryd.func8, Tryd.ntmps8
    go_wp2_with fail
    go_ret
    exact ⟨rfl, (by repeat (first | exact Below.refl _ _ | assumption | refine bel_drewN ?_ _ | refine bel_drew ?_ | refine bel_alloc ?_ _ | refine bel_set ?_ (by simp; omega) _ | refine bel_set ?_ (by simp) _ | refine bel_trans ?_ (by assumption)))⟩
  · go_enter Tryd.func8, Tryd.ntmps8
    go_wp2_with fail
    refine (draw_cfrom _ _ _ _ hnc hcm hb).mono ?_
    rintro e w1 ⟨s, rfl, hs, L1⟩
    obtain ⟨b, l, hr⟩ : ∃ b l, cfS s = (b, l) := ⟨(cfS s).1, (cfS s).2, rfl⟩
    have HI := Lib.hid (fun w hE hL => (impl_cf s (by omega) w hE hL).mono fun _ _ h => cf_as hr h)
    have HS := Lib.hid (fun w => (spec_cf s (by omega) w).mono fun _ _ h => cf_as hr h)
    clear hb
    go_wp2_with fail
    refine (HI.out _ (herr_bel hE L1) (hlen_bel hL L1)).mono ?_
    rintro e w2 ⟨v1, rfl, P2, hb2⟩
    have L2 := bel_trans L1 hb2
    clear L1 hb2
    go_wp2_with fail
    refine (HS.out _).mono ?_
    rintro e w3 ⟨v2, rfl, Q3, hb3⟩
    have P3 := P2.below hb3
    have L3 := bel_trans L2 hb3
    clear P2 L2 hb3 HI HS
    cases b
    · clear hr
      go_wp2_with fail
      refine (same_shells _ _ l _ P3.at_ Q3.at_).mono ?_
      rintro e w4 ⟨rfl, hb4⟩
      have P4 := P3.below hb4
      have Q4 := Q3.below hb4
      have L4 := bel_trans L3 hb4
      clear P3 Q3 L3 hb4
      go_wp2_with fail
      refine (same_shells _ _ l _ P4.at_ Q4.at_).mono ?_
      rintro e w5 ⟨rfl, hb5⟩
      go_wp2_with fail
      go_ret
      exact ⟨rfl, bel_trans L4 hb5⟩
    · have hof := of_cf (s := s) (by rw [hr])
      rw [hr] at hof
      have hv : cfgB l = true := hof.1
      have hct : cT l = s := hof.2
      have hl := cfg_short hv
      have z1 : (⟨#[32]⟩ : ByteArray).size = 1 := rfl
      have HA := Lib.hid (fun w hE hL => (impl_cf (⟨#[32]⟩ ++ s) (by rw [ByteArray.size_append]; omega) w hE hL).mono fun _ _ h => cf_as (cf_front s) h)
      have HB := Lib.hid (fun w hE hL => (impl_cf (s ++ ⟨#[32]⟩ ++ s) (by rw [ByteArray.size_append, ByteArray.size_append]; omega) w hE hL).mono fun _ _ h => cf_as (cf_twice s) h)
      have HV := Lib.hid (fun v w hw => impl_cfg v l w hw)
      have HC := Lib.hid (fun v w hw => impl_ct v l w hw (by omega))
      rw [hv] at HV
      rw [hct] at HC
      have hadd1 : ∀ W : World, (Op.stringOp .add ⟨#[32]⟩ s).run Tryd.prog W = .ok (.string (⟨#[32]⟩ ++ s)) W := fun W => run_string_add_sum W _ _ (by omega)
      have hadd2 : ∀ W : World, (Op.stringOp .add s ⟨#[32]⟩).run Tryd.prog W = .ok (.string (s ++ ⟨#[32]⟩)) W := fun W => run_string_add_sum W _ _ (by omega)
      have hadd3 : ∀ W : World, (Op.stringOp .add (s ++ ⟨#[32]⟩) s).run Tryd.prog W = .ok (.string (s ++ ⟨#[32]⟩ ++ s)) W := fun W => run_string_add_sum W _ _ (by rw [ByteArray.size_append]; omega)
      clear hr hof hv hct z1
      go_wp2_with fail
      refine (same_shells _ _ l _ P3.at_ Q3.at_).mono ?_
      rintro e w4 ⟨rfl, hb4⟩
      have P4 := P3.below hb4
      have L4 := bel_trans L3 hb4
      clear P3 Q3 L3 hb4
      go_wp2_with fail
      refine (HA.out _ (herr_bel hE L4) (hlen_bel hL L4)).mono ?_
      rintro e w5 ⟨v5, rfl, _, hb5⟩
      have P5 := P4.below hb5
      have L5 := bel_trans L4 hb5
      clear P4 L4 hb5
      go_wp2_with fail
      refine (HB.out _ (herr_bel hE L5) (hlen_bel hL L5)).mono ?_
      rintro e w6 ⟨v6, rfl, _, hb6⟩
      have P6 := P5.below hb6
      have L6 := bel_trans L5 hb6
      clear P5 L5 hb6
      go_wp2_with fail
      refine (HV.out _ _ P6.at_).mono ?_
      rintro e w7 ⟨rfl, hb7⟩
      have P7 := P6.below hb7
      have L7 := bel_trans L6 hb7
      clear P6 L6 hb7
      go_wp2_with fail
      refine (HC.out _ _ P7.at_).mono ?_
      rintro e w8 ⟨rfl, hb8⟩
      go_wp2_with fail
      go_ret
      exact ⟨rfl, bel_trans L7 hb8⟩

set_option maxRecDepth 100000 in
theorem lifted (os : Os) (started : os.Started) (H : Type) (enc : TypeId × Value → H) :
    ReturnsInHanded {} Tryd.checked os 8 .any (fun w args => (Rows.fnConfigFromSpec.pre enc Tryd.prog Tryd.f8 [] false w args ∧ laidMetH Tryd.prog laidC w) ∧ sizedMet enc Tryd.prog Tryd.f8 (OpenSpec.ofChange Rows.fnConfigFromSpec) false w args)
      (Rows.fnConfigFromSpec.post enc Tryd.prog Tryd.f8 false true false false) := by
  refine handed_shaped (C := Tryd.checked) (X := fun w _ => laidMetH Tryd.prog laidC w) (fun _ _ _ hh h => h.of_heap hh) own started (by kernel_rfl) Tryd.func8
    (ChangeSpec.witness_shaped (enc := enc) (C := Tryd.checked) (os := os) (X := fun w _ => laidMetH Tryd.prog laidC w) false (World.laidAll Tryd.prog os laidC) #[.slice none 0 0] 8 (World.laidAll_os _ _ _) (World.shaped_of_ZipB (by kernel_rfl) (by kernel_rfl)) (by kernel_rfl) (by kernel_rfl) (by kernel_rfl) (met_C os _)) ?_
  intro W base args ds gs before hval0 hW hSH hL
  have hval : ∀ (j : Nat) t v, Tryd.f8.params[j]? = some t → args[j]? = some v → Value.okWide Tryd.prog W .any base t v := hval0
  have hW' := hW
  have hlt := hW.lt
  obtain ⟨p, q, hA0, hV, rfl, hfz, hnd⟩ := hW
  have hA : DataW.TrodAll enc Tryd.prog W 0 (fun _ => true) true Tryd.f8.params.toList args.toList ds p := hA0
  rw [Tryd.params8] at hA hval
  obtain ⟨v0, vs0, d0, ds0, p0, q0, hargs, rfl, rfl, h0, r0⟩ := trodAll_cons hA
  obtain ⟨rfl, rfl, rfl⟩ := trodAll_nil r0
  obtain rfl : args = #[v0] := by cases args; simp_all
  obtain ⟨rfl, rfl⟩ := trodVars_none hV
  clear hA0 hval0 hA hfz hnd
  obtain ⟨a0, n0, c0, rfl, hnc0, hcm0, hb0⟩ := open_bytes Tryd.underlying22 Tryd.underlying5 (by kernel_rfl) (hval 0 22 v0 rfl rfl) h0 (fun x hx => hlt x (by simp [hx]))
  exact law_close laidOut (by kernel_rfl) rfl Tryd.underlying4 rfl rfl hW' (walk a0 n0 c0 W hnc0 hcm0 hb0 (herr_C hL) (hlen_of hSH))

theorem over : Rows.fnConfigFromRow.holds Tryd.pinned (OpenSpec.ofChange Rows.fnConfigFromSpec) :=
  OpenClaim.holds_of_wide 8 Tryd.f8 rfl rfl rfl rfl rfl rfl rfl ⟨rfl, rfl, rfl, rfl, rfl⟩ rfl rfl rfl rfl rfl (by kernel_rfl) Tryd.func8 (by kernel_rfl)
    (of_decide_eq_true (by kernel_rfl)) (by unfold Func.isWrapper; first | (rw [if_pos (by decide +kernel)]; kernel_rfl) | (rw [if_neg (by decide +kernel)]; exact ⟨rfl, rfl⟩))
    (fun os started H enc _ => lifted os started H enc)

theorem proved : Rows.FnConfigFromCardSaid :=
  Claim7.holds_tied_plain_at .later [] [.data, .data, .data, .data, .sentinel, .sentinel, .pinned] true (true, "9d55f8f38b2e9220cbac9ad63bf2f7ba5c50bdd7a8d52423ef98bb2db296f581") true
    over (fun _ h => by cases h) (by kernel_rfl) (fun _ h => by cases h) fnConfigFrom_row_tie rfl ⟨rfl, rfl⟩ (by kernel_rfl) rfl
    (fun f fn hf hfn => by
      obtain rfl : f = 8 := Option.some.inj ((show Tryd.prog.funcNamed "loop.example/atomicspectra/laws.FnConfigFrom" = some 8 by kernel_rfl).symm.trans hf) |>.symm
      obtain rfl : fn = Tryd.f8 := (Option.some.inj (Tryd.func8.symm.trans hfn)).symm
      exact ⟨by kernel_rfl, fun j t ht => by
        rw [Tryd.params8] at ht
        have hm : t ∈ [22] := by simpa using Array.mem_of_getElem? ht
        have hall : ([22].all fun u => !Tryd.prog.wantsStandIn u) = true := by kernel_rfl
        exact (show Tryd.prog.wantsStandIn t = false by simpa using List.all_eq_true.1 hall t hm)⟩)
    (by kernel_rfl)
end Go.Proofs.YtgmdljlbiokcaaaDoor.fnConfigFrom
