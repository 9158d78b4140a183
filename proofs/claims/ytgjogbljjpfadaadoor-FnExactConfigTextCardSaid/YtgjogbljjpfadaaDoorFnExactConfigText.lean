/- ConfigText of the program and of the reference return the same, for all arguments, and leave their argument alone. No condition but the tables of the library that the row lists. -/
import Derived.Test.YtgjogbljjpfadaaDoorConfText
import Derived.Test.YtgjogbljjpfadaaDoorRows3
import Derived.Test.YtgjogbljjpfadaaDoorOpenShells
import Derived.Test.YtgjogbljjpfadaaDoorDoorText
namespace Go.Proofs.YtgjogbljjpfadaaDoor.fnExactConfigText
open Go.ChangeShapes Go.WideShapes Go.ChangeAt Go.RowKit Go.Deep Go.Joins
set_option linter.unusedVariables false
set_option maxRecDepth 100000

set_option maxHeartbeats 2000000 in
theorem walk (a : Option Addr) (n0 c0 : Nat) (c : List Sh) (W : World) (hnc : n0 ≤ c0) (hcm : c0 ≤ maxLen) (hs : n0 = c.length ∧ ShAt W W.heap.size (.slice a n0 c0) c) :
    Calls Tryd.prog 4 #[.slice a n0 c0] W fun e W' => e = .returned (.bool true) ∧ Below W.heap.size W W' := by
  obtain ⟨rfl, hs⟩ := hs
  by_cases hn : 1048576 < c.length
  · have HS := Lib.hid (if_pos hn : (if 1048576 < c.length then (-1 : Int) else 1048576 - c.length) = -1)
    go_enter Tryd.func4, Tryd.ntmps4
    go_wp2_with fail
    refine (sz_shells _ _ _ _ _ rfl hnc hcm).mono ?_
    rintro e w' ⟨rfl, rfl⟩
    rw [HS.out]
    go_wp2_with fail
    go_ret
    exact ⟨rfl, (by repeat (first | exact Below.refl _ _ | assumption | refine bel_drewN ?_ _ | refine bel_drew ?_ | refine bel_alloc ?_ _ | refine bel_set ?_ (by simp; omega) _ | refine bel_set ?_ (by simp) _ | refine bel_trans ?_ (by assumption)))⟩
  · have HS := Lib.hid (if_neg hn : (if 1048576 < c.length then (-1 : Int) else 1048576 - c.length) = 1048576 - c.length)
    have hm : c.length ≤ maxLen := by unfold maxLen; omega
    have HM := Lib.hid hm
    have HI := Lib.hid (fun v w hv => impl_ct v c w hv (by omega))
    have HP := Lib.hid (fun v w hv => spec_ct v c w hv (by omega))
    generalize cT c = T at *
    clear hm
    go_enter Tryd.func4, Tryd.ntmps4
    go_wp2_with fail
    refine (sz_shells _ _ _ _ _ rfl hnc hcm).mono ?_
    rintro e w' ⟨rfl, rfl⟩
    rw [HS.out]
    go_wp2_with fail
    refine (to_shells _ c _ hs (by omega)).mono ?_
    rintro e w1 ⟨rfl, R1, hb1⟩
    go_wp2_with fail
    refine (HP.out _ _ (R1.at_ R1.lt HM.out)).mono ?_
    rintro e w2 ⟨rfl, hb2⟩
    have L2 := bel_trans hb1 hb2
    clear hb1 hb2 R1
    go_wp2_with fail
    refine (to_shells _ c _ (hs.below L2 |>.more L2.size) (by omega)).mono ?_
    rintro e w3 ⟨rfl, R3, hb3⟩
    have L3 := bel_trans L2 hb3
    clear hb3 L2
    go_wp2_with fail
    refine (HI.out _ _ (R3.at_ R3.lt HM.out)).mono ?_
    rintro e w4 ⟨rfl, hb4⟩
    have R4 := R3.below hb4
    have L4 := bel_trans L3 hb4
    clear R3 hb4 L3
    go_wp2_with fail
    refine (to_shells _ c _ (hs.below L4 |>.more L4.size) (by omega)).mono ?_
    rintro e w5 ⟨rfl, S5, hb5⟩
    have R5 := R4.below hb5
    have L5 := bel_trans L4 hb5
    clear R4 hb5 L4
    go_wp2_with fail
    refine (eq_shells _ _ c _ (R5.at_ R5.lt HM.out) (S5.at_ S5.lt HM.out)).mono ?_
    rintro e w6 ⟨rfl, hb6⟩
    go_wp2_with fail
    go_ret
    exact ⟨rfl, bel_trans L5 hb6⟩

set_option maxRecDepth 100000 in
theorem lifted (os : Os) (started : os.Started) (H : Type) (enc : TypeId × Value → H) :
    ReturnsInHanded {} Tryd.checked os 4 .any (fun w args => (Rows.fnExactConfigTextSpec.pre enc Tryd.prog Tryd.f4 [] false w args ∧ laidMetH Tryd.prog laidL w) ∧ sizedMet enc Tryd.prog Tryd.f4 (OpenSpec.ofChange Rows.fnExactConfigTextSpec) false w args)
      (Rows.fnExactConfigTextSpec.post enc Tryd.prog Tryd.f4 false true false false) := by
  refine returnsInHanded_of_change_and (C := Tryd.checked) (X := fun w _ => laidMetH Tryd.prog laidL w) (fun _ _ _ hh h => h.of_heap hh) own started (by kernel_rfl) Tryd.func4
    (ChangeSpec.witness_shaped (enc := enc) (C := Tryd.checked) (os := os) (X := fun w _ => laidMetH Tryd.prog laidL w) false (World.doorLaid Tryd.prog 400 os) #[.slice none 0 0] 8 rfl (World.shaped_of_RefB (by kernel_rfl) (by kernel_rfl)) (by kernel_rfl) (by kernel_rfl) (by kernel_rfl) (door_met os _)) ?_
  intro W base args ds gs before hval0 hW _ _ hL _
  have hval : ∀ (j : Nat) t v, Tryd.f4.params[j]? = some t → args[j]? = some v → Value.okWide Tryd.prog W .any base t v := hval0
  have hW' := hW
  have hlt := hW.lt
  obtain ⟨p, q, hA0, hV, rfl, hfz, hnd⟩ := hW
  have hA : DataW.TrodAll enc Tryd.prog W 0 (fun _ => true) true Tryd.f4.params.toList args.toList ds p := hA0
  rw [Tryd.params4] at hA hval
  obtain ⟨v0, vs0, d0, ds0, p0, q0, hargs, rfl, rfl, h0, r0⟩ := trodAll_cons hA
  obtain ⟨rfl, rfl, rfl⟩ := trodAll_nil r0
  obtain rfl : args = #[v0] := by cases args; simp_all
  obtain ⟨rfl, rfl⟩ := trodVars_none hV
  clear hA0 hval0 hA hfz hnd
  obtain ⟨a0, n0, c0, l0, rfl, hnc0, hcm0, hs0⟩ := open_shells (hval 0 28 v0 rfl rfl) h0 (fun x hx => hlt x (by simp [hx]))
  exact law_close laidOut (by kernel_rfl) rfl Tryd.underlying4 rfl rfl hW' (walk a0 n0 c0 l0 W hnc0 hcm0 hs0)

theorem over : Rows.fnExactConfigTextRow.holds Tryd.pinned (OpenSpec.ofChange Rows.fnExactConfigTextSpec) :=
  OpenClaim.holds_of_wide 4 Tryd.f4 rfl rfl rfl rfl rfl rfl rfl ⟨rfl, rfl, rfl, rfl, rfl⟩ rfl rfl rfl rfl rfl (by kernel_rfl) Tryd.func4 (by kernel_rfl)
    (of_decide_eq_true (by kernel_rfl)) (by unfold Func.isWrapper; first | (rw [if_pos (by decide +kernel)]; kernel_rfl) | (rw [if_neg (by decide +kernel)]; exact ⟨rfl, rfl⟩))
    (fun os started H enc _ => lifted os started H enc)

theorem proved : Rows.FnExactConfigTextCardSaid :=
  Claim7.holds_tied_plain_at .later [] [.data, .data, .data] true (true, "a963d52d5bddd32cb438fb29f90e6f478e7997d82a5fe9e3b317a2e838bc4ffd") false
    over (fun _ h => by cases h) (by kernel_rfl) (fun _ h => by cases h) fnExactConfigText_row_tie rfl ⟨rfl, rfl⟩ (by kernel_rfl) rfl
    (fun f fn hf hfn => by
      obtain rfl : f = 4 := Option.some.inj ((show Tryd.prog.funcNamed "loop.example/atomicspectra/laws.FnExactConfigText" = some 4 by kernel_rfl).symm.trans hf) |>.symm
      obtain rfl : fn = Tryd.f4 := (Option.some.inj (Tryd.func4.symm.trans hfn)).symm
      exact ⟨by kernel_rfl, fun j t ht => by
        rw [Tryd.params4] at ht
        have hm : t ∈ [28] := by simpa using Array.mem_of_getElem? ht
        have hall : ([28].all fun u => !Tryd.prog.wantsStandIn u) = true := by kernel_rfl
        exact (show Tryd.prog.wantsStandIn t = false by simpa using List.all_eq_true.1 hall t hm)⟩)
    (by kernel_rfl)
end Go.Proofs.YtgjogbljjpfadaaDoor.fnExactConfigText
