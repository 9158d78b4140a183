/- What is read is valid: the law returns true for all bytes. No condition but the variables of the library that the row lists. -/
import Derived.Test.YtgmdljlbiokcaaaDoorParseS
import Derived.Test.YtgmdljlbiokcaaaDoorDoorErr
import Derived.Test.YtgmdljlbiokcaaaDoorDrawFrom
import Derived.Test.YtgmdljlbiokcaaaDoorWordsPlain
namespace Go.Proofs.YtgmdljlbiokcaaaDoor.fnShellFrom
open Go.ChangeShapes Go.WideShapes Go.ChangeAt Go.RowKit Go.Deep Go.Joins
set_option linter.unusedVariables false
set_option maxRecDepth 100000

set_option maxHeartbeats 4000000 in
theorem walk (A0 : Option Addr) (n0 c0 : Nat) (W : World) (hnc : n0 ≤ c0) (hcm : c0 ≤ maxLen) (hb : Bytes W W.heap.size A0 n0) (hE : HErr W) :
    Calls Tryd.prog 5 #[.slice A0 n0 c0] W fun e W' => e = .returned (.bool true) ∧ Below W.heap.size W W' := by
  have hcm' := hcm
  unfold maxLen at hcm'
  by_cases hn : 1048576 < n0
  · go_enter Tryd.func5, Tryd.ntmps5
    go_wp2_with fail
    go_ret
    exact ⟨rfl, (by repeat (first | exact Below.refl _ _ | assumption | refine bel_drewN ?_ _ | refine bel_drew ?_ | refine bel_alloc ?_ _ | refine bel_set ?_ (by simp; omega) _ | refine bel_set ?_ (by simp) _ | refine bel_trans ?_ (by assumption)))⟩
  · go_enter Tryd.func5, Tryd.ntmps5
    go_wp2_with fail
    refine (draw_from _ _ _ _ hnc hcm hb).mono ?_
    rintro e w1 ⟨s, rfl, hs, L1⟩
    have HI := Lib.hid (fun w hE => impl_sf s (by omega) w hE)
    have HS := Lib.hid (fun w => spec_sf s (by omega) w)
    have hcs := fr_cases s
    clear hb
    go_wp2_with fail
    refine (HI.out _ (herr_bel hE L1)).mono ?_
    rintro e w2 ⟨rfl, hb2⟩
    have L2 := bel_trans L1 hb2
    clear hb2 HI
    rcases hcs with ⟨n, l, c, hr⟩ | hr
    · obtain ⟨hv, ht⟩ := of_fr hr
      rw [hr] at HS ⊢
      have HV := Lib.hid (fun w => impl_sv n l c w)
      rw [hv] at HV
      have HT := Lib.hid (fun w => impl_st n l c w)
      rw [ht] at HT
      have z1 : (⟨#[32]⟩ : ByteArray).size = 1 := rfl
      have HP := Lib.hid (fun w hE => impl_sf (s ++ ⟨#[32]⟩) (by rw [ByteArray.size_append]; omega) w hE)
      rw [fr_space] at HP
      have hadd : ∀ W : World, (Op.stringOp .add s ⟨#[32]⟩).run Tryd.prog W = .ok (.string (s ++ ⟨#[32]⟩)) W := fun W => run_string_add_sum W _ _ (by omega)
      have O2 := Own.new w2 24 #[.int .i64 n, .int .i64 l, .int .i64 c]
      have L3 := bel_alloc L2 (.cells #[.int .i64 n, .int .i64 l, .int .i64 c] 24)
      clear hr hv ht z1 L1 L2
      go_wp2_with fail
      refine (HS.out _).mono ?_
      rintro e w3 ⟨rfl, hb3⟩
      have O3 := (O2.below hb3).alloc (.cells #[.int .i64 n, .int .i64 l, .int .i64 c] 24)
      have L4 := bel_alloc (bel_trans L3 hb3) (.cells #[.int .i64 n, .int .i64 l, .int .i64 c] 24)
      have q := (O2.below hb3).cell
      have ql := (O2.below hb3).lt
      clear hb3 O2 L3
      go_wp2_with fail
      refine (HP.out _ (herr_bel hE L4)).mono ?_
      rintro e w4 ⟨rfl, hb4⟩
      have O4 := (O3.below hb4).alloc (.cells #[.int .i64 0, .int .i64 0, .int .i64 0] 24)
      have q4 := (O3.below hb4).cell
      have ql4 := (O3.below hb4).lt
      have L5 := bel_alloc (bel_trans L4 hb4) (.cells #[.int .i64 0, .int .i64 0, .int .i64 0] 24)
      clear hb4 O3 L4 q ql
      go_wp2_with fail
      refine (HV.out _).mono ?_
      rintro e w5 ⟨rfl, hb5⟩
      have O5 := O4.below hb5
      have q := O5.cell
      have ql := O5.lt
      have L6 := bel_trans L5 hb5
      clear hb5 O4 L5 q4 ql4
      go_wp2_with fail
      refine (HT.out _).mono ?_
      rintro e w6 ⟨rfl, hb6⟩
      have L7 := bel_trans L6 hb6
      go_wp2_with fail
      go_ret
      exact ⟨rfl, L7⟩
    · rw [hr] at HS ⊢
      have O2 := Own.new w2 24 #[.int .i64 0, .int .i64 0, .int .i64 0]
      have L3 := bel_alloc L2 (.cells #[.int .i64 0, .int .i64 0, .int .i64 0] 24)
      clear hr L1 L2
      go_wp2_with fail
      refine (HS.out _).mono ?_
      rintro e w3 ⟨rfl, hb3⟩
      have O3 := O2.below hb3
      have L4 := bel_alloc (bel_trans L3 hb3) (.cells #[.int .i64 0, .int .i64 0, .int .i64 0] 24)
      have q := O3.cell
      have ql := O3.lt
      go_wp2_with fail
      go_ret
      exact ⟨rfl, L4⟩

set_option maxRecDepth 100000 in
theorem lifted (os : Os) (started : os.Started) (H : Type) (enc : TypeId × Value → H) :
    ReturnsInHanded {} Tryd.checked os 5 .any (fun w args => (Rows.fnShellFromSpec.pre enc Tryd.prog Tryd.f5 [] false w args ∧ laidMetH Tryd.prog laidS w) ∧ sizedMet enc Tryd.prog Tryd.f5 (OpenSpec.ofChange Rows.fnShellFromSpec) false w args)
      (Rows.fnShellFromSpec.post enc Tryd.prog Tryd.f5 false true false false) := by
  refine handed_shaped (C := Tryd.checked) (X := fun w _ => laidMetH Tryd.prog laidS w) (fun _ _ _ hh h => h.of_heap hh) own started (by kernel_rfl) Tryd.func5
    (ChangeSpec.witness_shaped (enc := enc) (C := Tryd.checked) (os := os) (X := fun w _ => laidMetH Tryd.prog laidS w) false (World.laidAll Tryd.prog os laidS) #[.slice none 0 0] 8 (World.laidAll_os _ _ _) (World.shaped_of_ZipB (by kernel_rfl) (by kernel_rfl)) (by kernel_rfl) (by kernel_rfl) (by kernel_rfl) (met_S os _)) ?_
  intro W base args ds gs before hval0 hW hSH hL
  have hval : ∀ (j : Nat) t v, Tryd.f5.params[j]? = some t → args[j]? = some v → Value.okWide Tryd.prog W .any base t v := hval0
  have hW' := hW
  have hlt := hW.lt
  obtain ⟨p, q, hA0, hV, rfl, hfz, hnd⟩ := hW
  have hA : DataW.TrodAll enc Tryd.prog W 0 (fun _ => true) true Tryd.f5.params.toList args.toList ds p := hA0
  rw [Tryd.params5] at hA hval
  obtain ⟨v0, vs0, d0, ds0, p0, q0, hargs, rfl, rfl, h0, r0⟩ := trodAll_cons hA
  obtain ⟨rfl, rfl, rfl⟩ := trodAll_nil r0
  obtain rfl : args = #[v0] := by cases args; simp_all
  obtain ⟨rfl, rfl⟩ := trodVars_none hV
  clear hA0 hval0 hA hfz hnd
  obtain ⟨a0, n0, c0, rfl, hnc0, hcm0, hb0⟩ := open_bytes Tryd.underlying22 Tryd.underlying5 (by kernel_rfl) (hval 0 22 v0 rfl rfl) h0 (fun x hx => hlt x (by simp [hx]))
  exact law_close laidOut (by kernel_rfl) rfl Tryd.underlying4 rfl rfl hW' (walk a0 n0 c0 W hnc0 hcm0 hb0 (herr_S hL))

theorem over : Rows.fnShellFromRow.holds Tryd.pinned (OpenSpec.ofChange Rows.fnShellFromSpec) :=
  OpenClaim.holds_of_wide 5 Tryd.f5 rfl rfl rfl rfl rfl rfl rfl ⟨rfl, rfl, rfl, rfl, rfl⟩ rfl rfl rfl rfl rfl (by kernel_rfl) Tryd.func5 (by kernel_rfl)
    (of_decide_eq_true (by kernel_rfl)) (by unfold Func.isWrapper; first | (rw [if_pos (by decide +kernel)]; kernel_rfl) | (rw [if_neg (by decide +kernel)]; exact ⟨rfl, rfl⟩))
    (fun os started H enc _ => lifted os started H enc)

theorem proved : Rows.FnShellFromCardSaid :=
  Claim7.holds_tied_plain_at .later [] [.data, .data, .data, .sentinel, .sentinel] true (true, "9d55f8f38b2e9220cbac9ad63bf2f7ba5c50bdd7a8d52423ef98bb2db296f581") true
    over (fun _ h => by cases h) (by kernel_rfl) (fun _ h => by cases h) fnShellFrom_row_tie rfl ⟨rfl, rfl⟩ (by kernel_rfl) rfl
    (fun f fn hf hfn => by
      obtain rfl : f = 5 := Option.some.inj ((show Tryd.prog.funcNamed "loop.example/atomicspectra/laws.FnShellFrom" = some 5 by kernel_rfl).symm.trans hf) |>.symm
      obtain rfl : fn = Tryd.f5 := (Option.some.inj (Tryd.func5.symm.trans hfn)).symm
      exact ⟨by kernel_rfl, fun j t ht => by
        rw [Tryd.params5] at ht
        have hm : t ∈ [22] := by simpa using Array.mem_of_getElem? ht
        have hall : ([22].all fun u => !Tryd.prog.wantsStandIn u) = true := by kernel_rfl
        exact (show Tryd.prog.wantsStandIn t = false by simpa using List.all_eq_true.1 hall t hm)⟩)
    (by kernel_rfl)
end Go.Proofs.YtgmdljlbiokcaaaDoor.fnShellFrom
