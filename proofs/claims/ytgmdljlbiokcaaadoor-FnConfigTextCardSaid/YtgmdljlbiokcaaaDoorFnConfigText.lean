/- A configuration is read back: the law returns true for all bytes. No condition but the variables of the library that the row lists. -/
import Derived.Test.YtgmdljlbiokcaaaDoorConfFrom
import Derived.Test.YtgmdljlbiokcaaaDoorSameSh
import Derived.Test.YtgmdljlbiokcaaaDoorDrawConfs
namespace Go.Proofs.YtgmdljlbiokcaaaDoor.fnConfigText
open Go.ChangeShapes Go.WideShapes Go.ChangeAt Go.RowKit Go.Deep Go.Joins
set_option linter.unusedVariables false
set_option maxRecDepth 100000

theorem not_empty {T : ByteArray} (h : T ≠ ByteArray.empty) : T.toList.isEmpty = false := by
  rw [ByteArray.toList_eq]
  cases e : T.data.toList with
  | nil => exact absurd (ba_ext e) h
  | cons _ _ => rfl
theorem ct_ne {c : List Sh} (h : cfgB c = true) : cT c ≠ ByteArray.empty := by
  intro e
  have h1 := cf_of h
  rw [e] at h1
  have h2 : (cfS ByteArray.empty).1 = false := by decide
  rw [h1] at h2
  simp at h2
theorem cf_as {s : ByteArray} {b : Bool} {l : List Sh} (hr : cfS s = (b, l)) {w w' : World} {e : Ending} (h : CfEnd s w e w') : ∃ v, e = .returned (.tuple #[v, .bool b]) ∧ OwnSh w' w.heap.size v l ∧ Below w.heap.size w w' := by
  unfold CfEnd at h
  rw [hr] at h
  exact h

set_option maxHeartbeats 4000000 in
theorem walk (A0 : Option Addr) (n0 c0 : Nat) (W : World) (hnc : n0 ≤ c0) (hcm : c0 ≤ maxLen) (hb : Bytes W W.heap.size A0 n0) (hE : HErr W) (hL : HLen W) :
    Calls Tryd.prog 7 #[.slice A0 n0 c0] W fun e W' => e = .returned (.bool true) ∧ Below W.heap.size W W' := by
  have hcm' := hcm
  unfold maxLen at hcm'
  by_cases hn : 1048576 < n0
  · go_enter Tryd.func7, Tryd.ntmps7
    go_wp2_with fail
    go_ret
    exact ⟨rfl, (by repeat (first | exact Below.refl _ _ | assumption | refine bel_drewN ?_ _ | refine bel_drew ?_ | refine bel_alloc ?_ _ | refine bel_set ?_ (by simp; omega) _ | refine bel_set ?_ (by simp) _ | refine bel_trans ?_ (by assumption)))⟩
  · go_enter Tryd.func7, Tryd.ntmps7
    go_wp2_with fail
    refine (draw_conf_text _ _ _ _ hnc hcm hb).mono ?_
    rintro e w1 ⟨v, l, rfl, hl, P1, L1⟩
    have HI := Lib.hid (fun w hv => impl_ct v l w hv (by omega))
    have HS := Lib.hid (fun w hv => spec_ct v l w hv (by omega))
    clear hb
    go_wp2_with fail
    refine (HI.out _ P1.at_).mono ?_
    rintro e w2 ⟨rfl, hb2⟩
    have P2 := P1.below hb2
    have L2 := bel_trans L1 hb2
    clear P1 L1 hb2
    go_wp2_with fail
    refine (HS.out _ P2.at_).mono ?_
    rintro e w3 ⟨rfl, hb3⟩
    have P3 := P2.below hb3
    have L3 := bel_trans L2 hb3
    clear P2 L2 hb3 HI HS
    cases hv : cfgB l
    · have HT : cT l = ByteArray.empty := by simp [cT, hv]
      rw [HT]
      clear HT hv
      go_wp2_with fail
      go_ret
      exact ⟨rfl, L3⟩
    · have hne := not_empty (ct_ne hv)
      have hsz : (cT l).size ≤ 200 := by
        have := ctUp_size l l.length
        unfold cT
        rw [if_pos hv]
        omega
      have hF := cf_of hv
      have HP := Lib.hid (fun w hE hL => (impl_cf (cT l) (by omega) w hE hL).mono fun _ _ h => cf_as hF h)
      clear hF hv hsz
      generalize cT l = T at *
      go_wp2_with fail
      refine (HP.out _ (herr_bel hE L3) (hlen_bel hL L3)).mono ?_
      rintro e w4 ⟨v2, rfl, Q4, hb4⟩
      have P4 := P3.below hb4
      have L4 := bel_trans L3 hb4
      clear P3 L3 hb4
      go_wp2_with fail
      refine (same_shells _ _ l _ Q4.at_ P4.at_).mono ?_
      rintro e w5 ⟨rfl, hb5⟩
      go_wp2_with fail
      go_ret
      exact ⟨rfl, bel_trans L4 hb5⟩

set_option maxRecDepth 100000 in
theorem lifted (os : Os) (started : os.Started) (H : Type) (enc : TypeId × Value → H) :
    ReturnsInHanded {} Tryd.checked os 7 .any (fun w args => (Rows.fnConfigTextSpec.pre enc Tryd.prog Tryd.f7 [] false w args ∧ laidMetH Tryd.prog laidC w) ∧ sizedMet enc Tryd.prog Tryd.f7 (OpenSpec.ofChange Rows.fnConfigTextSpec) false w args)
      (Rows.fnConfigTextSpec.post enc Tryd.prog Tryd.f7 false true false false) := by
  refine handed_shaped (C := Tryd.checked) (X := fun w _ => laidMetH Tryd.prog laidC w) (fun _ _ _ hh h => h.of_heap hh) own started (by kernel_rfl) Tryd.func7
    (ChangeSpec.witness_shaped (enc := enc) (C := Tryd.checked) (os := os) (X := fun w _ => laidMetH Tryd.prog laidC w) false (World.laidAll Tryd.prog os laidC) #[.slice none 0 0] 8 (World.laidAll_os _ _ _) (World.shaped_of_ZipB (by kernel_rfl) (by kernel_rfl)) (by kernel_rfl) (by kernel_rfl) (by kernel_rfl) (met_C os _)) ?_
  intro W base args ds gs before hval0 hW hSH hL
  have hval : ∀ (j : Nat) t v, Tryd.f7.params[j]? = some t → args[j]? = some v → Value.okWide Tryd.prog W .any base t v := hval0
  have hW' := hW
  have hlt := hW.lt
  obtain ⟨p, q, hA0, hV, rfl, hfz, hnd⟩ := hW
  have hA : DataW.TrodAll enc Tryd.prog W 0 (fun _ => true) true Tryd.f7.params.toList args.toList ds p := hA0
  rw [Tryd.params7] at hA hval
  obtain ⟨v0, vs0, d0, ds0, p0, q0, hargs, rfl, rfl, h0, r0⟩ := trodAll_cons hA
  obtain ⟨rfl, rfl, rfl⟩ := trodAll_nil r0
  obtain rfl : args = #[v0] := by cases args; simp_all
  obtain ⟨rfl, rfl⟩ := trodVars_none hV
  clear hA0 hval0 hA hfz hnd
  obtain ⟨a0, n0, c0, rfl, hnc0, hcm0, hb0⟩ := open_bytes Tryd.underlying22 Tryd.underlying5 (by kernel_rfl) (hval 0 22 v0 rfl rfl) h0 (fun x hx => hlt x (by simp [hx]))
  exact law_close laidOut (by kernel_rfl) rfl Tryd.underlying4 rfl rfl hW' (walk a0 n0 c0 W hnc0 hcm0 hb0 (herr_C hL) (hlen_of hSH))

theorem over : Rows.fnConfigTextRow.holds Tryd.pinned (OpenSpec.ofChange Rows.fnConfigTextSpec) :=
  OpenClaim.holds_of_wide 7 Tryd.f7 rfl rfl rfl rfl rfl rfl rfl ⟨rfl, rfl, rfl, rfl, rfl⟩ rfl rfl rfl rfl rfl (by kernel_rfl) Tryd.func7 (by kernel_rfl)
    (of_decide_eq_true (by kernel_rfl)) (by unfold Func.isWrapper; first | (rw [if_pos (by decide +kernel)]; kernel_rfl) | (rw [if_neg (by decide +kernel)]; exact ⟨rfl, rfl⟩))
    (fun os started H enc _ => lifted os started H enc)

theorem proved : Rows.FnConfigTextCardSaid :=
  Claim7.holds_tied_plain_at .later [] [.data, .data, .data, .data, .sentinel, .sentinel, .pinned] true (true, "9d55f8f38b2e9220cbac9ad63bf2f7ba5c50bdd7a8d52423ef98bb2db296f581") true
    over (fun _ h => by cases h) (by kernel_rfl) (fun _ h => by cases h) fnConfigText_row_tie rfl ⟨rfl, rfl⟩ (by kernel_rfl) rfl
    (fun f fn hf hfn => by
      obtain rfl : f = 7 := Option.some.inj ((show Tryd.prog.funcNamed "loop.example/atomicspectra/laws.FnConfigText" = some 7 by kernel_rfl).symm.trans hf) |>.symm
      obtain rfl : fn = Tryd.f7 := (Option.some.inj (Tryd.func7.symm.trans hfn)).symm
      exact ⟨by kernel_rfl, fun j t ht => by
        rw [Tryd.params7] at ht
        have hm : t ∈ [22] := by simpa using Array.mem_of_getElem? ht
        have hall : ([22].all fun u => !Tryd.prog.wantsStandIn u) = true := by kernel_rfl
        exact (show Tryd.prog.wantsStandIn t = false by simpa using List.all_eq_true.1 hall t hm)⟩)
    (by kernel_rfl)
end Go.Proofs.YtgmdljlbiokcaaaDoor.fnConfigText
