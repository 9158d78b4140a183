/- TermsWeight of the program and of the reference return the same, for all arguments. No condition. -/
import Derived.Test.YtjfeknfdpdfdeaaTerms
import Derived.Test.YtjfeknfdpdfdeaaOpenTerms
namespace Go.Proofs.Ytjfeknfdpdfdeaa.fnExactTermsWeight
open Go.ChangeShapes Go.WideShapes Go.ChangeAt Go.RowKit Go.Deep Go.Joins
set_option linter.unusedVariables false

set_option maxHeartbeats 2000000 in
theorem walk (a : Option Addr) (n c : Nat) (l : List Pr) (W : World) (hnc : n ≤ c) (hcm : c ≤ maxLen) (hs : n = l.length ∧ PrAt W W.heap.size (.slice a n c) l) :
    Calls Try.prog 3 #[.slice a n c] W fun e W' => e = .returned (.bool true) ∧ Below W.heap.size W W' := by
  obtain ⟨rfl, hs⟩ := hs
  by_cases hn : 1048576 < l.length
  · have HS := Lib.hid (if_pos hn : (if 1048576 < l.length then (-1 : Int) else 1048576 - l.length) = -1)
    go_enter Try.func3, Try.ntmps3
    go_wp2_with fail
    refine (sz_terms _ _ _ _ _ rfl hnc hcm).mono ?_
    rintro e w' ⟨rfl, rfl⟩
    rw [HS.out]
    go_wp2_with fail
    go_ret
    exact ⟨rfl, (by repeat (first | exact Below.refl _ _ | assumption | refine bel_drewN ?_ _ | refine bel_drew ?_ | refine bel_alloc ?_ _ | refine bel_set ?_ (by simp; omega) _ | refine bel_set ?_ (by simp) _ | refine bel_trans ?_ (by assumption)))⟩
  · have HS := Lib.hid (if_neg hn : (if 1048576 < l.length then (-1 : Int) else 1048576 - l.length) = 1048576 - l.length)
    have hm : l.length ≤ maxLen := by unfold maxLen; omega
    have HM := Lib.hid hm
    clear hm
    go_enter Try.func3, Try.ntmps3
    go_wp2_with fail
    refine (sz_terms _ _ _ _ _ rfl hnc hcm).mono ?_
    rintro e w' ⟨rfl, rfl⟩
    rw [HS.out]
    go_wp2_with fail
    refine (to_terms _ l _ hs (by omega)).mono ?_
    rintro e w1 ⟨rfl, R1, hb1⟩
    go_wp2_with fail
    refine (spec_tsw _ l _ (R1.at_ (R1.lt) HM.out) (by omega)).mono ?_
    rintro e w2 ⟨rfl, hb2⟩
    have L2 := bel_trans hb1 hb2
    clear hb1 hb2 R1
    go_wp2_with fail
    refine (to_terms _ l _ (hs.below L2 |>.more L2.size) (by omega)).mono ?_
    rintro e w3 ⟨rfl, R3, hb3⟩
    have L3 := bel_trans L2 hb3
    clear hb3 L2
    go_wp2_with fail
    refine (impl_tsw _ l _ (R3.at_ (R3.lt) HM.out) (by omega)).mono ?_
    rintro e w4 ⟨rfl, hb4⟩
    have R4 := R3.below hb4
    have L4 := bel_trans L3 hb4
    clear R3 hb4 L3
    go_wp2_with fail
    refine (to_terms _ l _ (hs.below L4 |>.more L4.size) (by omega)).mono ?_
    rintro e w5 ⟨rfl, S5, hb5⟩
    have R5 := R4.below hb5
    have L5 := bel_trans L4 hb5
    clear R4 hb5 L4
    go_wp2_with fail
    refine (eq_terms _ _ l _ (R5.at_ R5.lt HM.out) (S5.at_ S5.lt HM.out)).mono ?_
    rintro e w6 ⟨rfl, hb6⟩
    have L6 := bel_trans L5 hb6
    go_wp2_with fail
    go_ret
    exact ⟨rfl, L6⟩

set_option maxRecDepth 100000 in
theorem lifted (os : Os) (started : os.Started) (H : Type) (enc : TypeId × Value → H) :
    ReturnsInHanded {} Try.checked os 3 .any (Rows.fnExactTermsWeightSpec.pre6 enc Try.prog Try.f3 Rows.fnExactTermsWeightRow.domain false) (Rows.fnExactTermsWeightSpec.post enc Try.prog Try.f3 false true false false) := by
  refine returnsInHanded_of_change (C := Try.checked) own started (by kernel_rfl) Try.func3
    (ChangeSpec.witness6 (enc := enc) (C := Try.checked) false ⟨#[], #[.slice none 0 0], []⟩ 8 (by kernel_rfl) (by kernel_rfl) (by kernel_rfl) (by kernel_rfl)) ?_
  intro W base args ds gs before hval0 hW hcnd _
  have hval : ∀ (j : Nat) t v, Try.f3.params[j]? = some t → args[j]? = some v → Value.okWide Try.prog W .any base t v := hval0
  have hW' := hW
  have hlt := hW.lt
  obtain ⟨p, q, hA0, hV, rfl, hfz, hnd⟩ := hW
  have hA : DataW.TrodAll enc Try.prog W 0 (fun _ => true) true Try.f3.params.toList args.toList ds p := hA0
  rw [Try.params3] at hA hval
  obtain ⟨v0, vs0, d0, ds0, p0, q0, hargs, rfl, rfl, h0, r0⟩ := trodAll_cons hA
  obtain ⟨rfl, rfl, rfl⟩ := trodAll_nil r0
  obtain rfl : args = #[v0] := by cases args; simp_all
  obtain ⟨rfl, rfl⟩ := trodVars_none hV
  clear hA0 hval0 hA hfz hnd
  obtain ⟨a0, n0, c0, l0, rfl, hnc0, hcm0, hs0⟩ := open_terms (hval 0 22 v0 rfl rfl) h0 (fun x hx => hlt x (by simp [hx]))
  exact law_close laidOut (by kernel_rfl) rfl Try.underlying4 rfl rfl hW' (walk a0 n0 c0 l0 W hnc0 hcm0 hs0)

theorem over : Rows.fnExactTermsWeightRow.holds Try.pinned (OpenSpec.ofChange Rows.fnExactTermsWeightSpec) :=
  OpenClaim.holds_of_wide 3 Try.f3 rfl rfl rfl rfl rfl rfl rfl ⟨rfl, rfl, rfl, rfl, rfl⟩ rfl rfl rfl rfl rfl (by kernel_rfl) Try.func3 (by kernel_rfl)
    (of_decide_eq_true (by kernel_rfl)) (by unfold Func.isWrapper; first | (rw [if_pos (by decide +kernel)]; kernel_rfl) | (rw [if_neg (by decide +kernel)]; exact ⟨rfl, rfl⟩))
    (fun os started H enc _ => lifted os started H enc)

theorem proved : Rows.FnExactTermsWeightSaid := over
end Go.Proofs.Ytjfeknfdpdfdeaa.fnExactTermsWeight
