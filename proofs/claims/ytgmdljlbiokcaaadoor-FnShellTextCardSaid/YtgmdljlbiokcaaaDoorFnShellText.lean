/- A shell is read back: the law returns true for all bytes. No condition but the variables of the library that the row lists. -/
import Derived.Test.YtgmdljlbiokcaaaDoorParseS
import Derived.Test.YtgmdljlbiokcaaaDoorDoorErr
import Derived.Test.YtgmdljlbiokcaaaDoorDrawShell
namespace Go.Proofs.YtgmdljlbiokcaaaDoor.fnShellText
open Go.ChangeShapes Go.WideShapes Go.ChangeAt Go.RowKit Go.Deep Go.Joins
set_option linter.unusedVariables false
set_option maxRecDepth 100000

theorem not_empty {T : ByteArray} (h : 0 < T.size) : T.toList.isEmpty = false := by
  rw [ByteArray.toList_eq]
  cases e : T.data.toList with
  | nil =>
    have h2 : T.size = T.data.toList.length := rfl
    rw [e] at h2
    rw [h2] at h
    exact absurd h (by decide)
  | cons _ _ => rfl

set_option maxHeartbeats 4000000 in
theorem walk (A0 : Option Addr) (n0 c0 : Nat) (W : World) (hnc : n0 ≤ c0) (hcm : c0 ≤ maxLen) (hb : Bytes W W.heap.size A0 n0) (hE : HErr W) :
    Calls Tryd.prog 3 #[.slice A0 n0 c0] W fun e W' => e = .returned (.bool true) ∧ Below W.heap.size W W' := by
  have hcm' := hcm
  unfold maxLen at hcm'
  by_cases hn : 1048576 < n0
  · go_enter Tryd.func3, Tryd.ntmps3
    go_wp2_with fail
    go_ret
    exact ⟨rfl, (by repeat (first | exact Below.refl _ _ | assumption | refine bel_drewN ?_ _ | refine bel_drew ?_ | refine bel_alloc ?_ _ | refine bel_set ?_ (by simp; omega) _ | refine bel_set ?_ (by simp) _ | refine bel_trans ?_ (by assumption)))⟩
  · go_enter Tryd.func3, Tryd.ntmps3
    go_wp2_with fail
    refine (draw_shell_text _ _ _ _ hnc hcm hb).mono ?_
    rintro e w1 ⟨x, y, z, rfl, hx, L1⟩
    have HI := Lib.hid (fun w => impl_st x y z w)
    have HS := Lib.hid (fun w => spec_st x y z w)
    have O1 := Own.new w1 24 #[.int .i64 x, .int .i64 y, .int .i64 z]
    have L2 := bel_alloc L1 (.cells #[.int .i64 x, .int .i64 y, .int .i64 z] 24)
    clear hb hx
    go_wp2_with fail
    refine (HI.out _).mono ?_
    rintro e w2 ⟨rfl, hb2⟩
    have O2 := O1.below hb2
    have L3 := bel_trans L2 hb2
    clear O1 L1 L2 hb2
    have q := O2.cell
    have ql := O2.lt
    go_wp2_with fail
    refine (HS.out _).mono ?_
    rintro e w3 ⟨rfl, hb3⟩
    have O3 := O2.below hb3
    have L4 := bel_trans L3 hb3
    clear O2 L3 hb3 q ql HI HS
    cases hv : shB x y z
    · have HT : shText x y z = ByteArray.empty := by simp [shText, hv]
      rw [HT]
      clear HT hv
      go_wp2_with fail
      go_ret
      exact ⟨rfl, L4⟩
    · have hF := fr_of hv (s := shText x y z) rfl
      obtain ⟨N0, e0, z3, z4, hrest⟩ := parse_of hv (s := shText x y z) rfl
      clear e0 hrest
      have hP := Lib.hid (fun w hE => impl_sf (shText x y z) (by omega) w hE)
      rw [hF] at hP
      generalize shText x y z = T at *
      have hne := not_empty (T := T) (by omega)
      have e3 : decide ((3 : Int) ≤ T.size) = true := by simp; omega
      have e4 : decide ((T.size : Int) ≤ 4) = true := by simp; omega
      clear hv hF
      go_wp2_with fail
      refine (hP.out _ (herr_bel hE L4)).mono ?_
      rintro e w4 ⟨rfl, hb4⟩
      have O4 := O3.below hb4
      have L5 := bel_alloc (bel_trans L4 hb4) (.cells #[.int .i64 x, .int .i64 y, .int .i64 z] 24)
      clear O3 hb4 L4
      have q := O4.cell
      have ql := O4.lt
      go_wp2_with fail
      go_ret
      exact ⟨rfl, L5⟩

set_option maxRecDepth 100000 in
theorem lifted (os : Os) (started : os.Started) (H : Type) (enc : TypeId × Value → H) :
    ReturnsInHanded {} Tryd.checked os 3 .any (fun w args => (Rows.fnShellTextSpec.pre enc Tryd.prog Tryd.f3 [] false w args ∧ laidMetH Tryd.prog laidS w) ∧ sizedMet enc Tryd.prog Tryd.f3 (OpenSpec.ofChange Rows.fnShellTextSpec) false w args)
      (Rows.fnShellTextSpec.post enc Tryd.prog Tryd.f3 false true false false) := by
  refine handed_shaped (C := Tryd.checked) (X := fun w _ => laidMetH Tryd.prog laidS w) (fun _ _ _ hh h => h.of_heap hh) own started (by kernel_rfl) Tryd.func3
    (ChangeSpec.witness_shaped (enc := enc) (C := Tryd.checked) (os := os) (X := fun w _ => laidMetH Tryd.prog laidS w) false (World.laidAll Tryd.prog os laidS) #[.slice none 0 0] 8 (World.laidAll_os _ _ _) (World.shaped_of_ZipB (by kernel_rfl) (by kernel_rfl)) (by kernel_rfl) (by kernel_rfl) (by kernel_rfl) (met_S os _)) ?_
  intro W base args ds gs before hval0 hW hSH hL
  have hval : ∀ (j : Nat) t v, Tryd.f3.params[j]? = some t → args[j]? = some v → Value.okWide Tryd.prog W .any base t v := hval0
  have hW' := hW
  have hlt := hW.lt
  obtain ⟨p, q, hA0, hV, rfl, hfz, hnd⟩ := hW
  have hA : DataW.TrodAll enc Tryd.prog W 0 (fun _ => true) true Tryd.f3.params.toList args.toList ds p := hA0
  rw [Tryd.params3] at hA hval
  obtain ⟨v0, vs0, d0, ds0, p0, q0, hargs, rfl, rfl, h0, r0⟩ := trodAll_cons hA
  obtain ⟨rfl, rfl, rfl⟩ := trodAll_nil r0
  obtain rfl : args = #[v0] := by cases args; simp_all
  obtain ⟨rfl, rfl⟩ := trodVars_none hV
  clear hA0 hval0 hA hfz hnd
  obtain ⟨a0, n0, c0, rfl, hnc0, hcm0, hb0⟩ := open_bytes Tryd.underlying22 Tryd.underlying5 (by kernel_rfl) (hval 0 22 v0 rfl rfl) h0 (fun x hx => hlt x (by simp [hx]))
  exact law_close laidOut (by kernel_rfl) rfl Tryd.underlying4 rfl rfl hW' (walk a0 n0 c0 W hnc0 hcm0 hb0 (herr_S hL))

theorem over : Rows.fnShellTextRow.holds Tryd.pinned (OpenSpec.ofChange Rows.fnShellTextSpec) :=
  OpenClaim.holds_of_wide 3 Tryd.f3 rfl rfl rfl rfl rfl rfl rfl ⟨rfl, rfl, rfl, rfl, rfl⟩ rfl rfl rfl rfl rfl (by kernel_rfl) Tryd.func3 (by kernel_rfl)
    (of_decide_eq_true (by kernel_rfl)) (by unfold Func.isWrapper; first | (rw [if_pos (by decide +kernel)]; kernel_rfl) | (rw [if_neg (by decide +kernel)]; exact ⟨rfl, rfl⟩))
    (fun os started H enc _ => lifted os started H enc)

theorem proved : Rows.FnShellTextCardSaid :=
  Claim7.holds_tied_plain_at .later [] [.data, .data, .data, .sentinel, .sentinel] true (true, "9d55f8f38b2e9220cbac9ad63bf2f7ba5c50bdd7a8d52423ef98bb2db296f581") true
    over (fun _ h => by cases h) (by kernel_rfl) (fun _ h => by cases h) fnShellText_row_tie rfl ⟨rfl, rfl⟩ (by kernel_rfl) rfl
    (fun f fn hf hfn => by
      obtain rfl : f = 3 := Option.some.inj ((show Tryd.prog.funcNamed "loop.example/atomicspectra/laws.FnShellText" = some 3 by kernel_rfl).symm.trans hf) |>.symm
      obtain rfl : fn = Tryd.f3 := (Option.some.inj (Tryd.func3.symm.trans hfn)).symm
      exact ⟨by kernel_rfl, fun j t ht => by
        rw [Tryd.params3] at ht
        have hm : t ∈ [22] := by simpa using Array.mem_of_getElem? ht
        have hall : ([22].all fun u => !Tryd.prog.wantsStandIn u) = true := by kernel_rfl
        exact (show Tryd.prog.wantsStandIn t = false by simpa using List.all_eq_true.1 hall t hm)⟩)
    (by kernel_rfl)
end Go.Proofs.YtgmdljlbiokcaaaDoor.fnShellText
