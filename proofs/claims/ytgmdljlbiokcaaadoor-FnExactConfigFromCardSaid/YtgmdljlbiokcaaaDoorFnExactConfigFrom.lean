/- ConfigFrom of the program and of the reference return the same, for all arguments; the program's result is memory of its own. No condition but the variables of the library that the row lists. -/
import Derived.Test.YtgmdljlbiokcaaaDoorConfFrom
import Derived.Test.YtgmdljlbiokcaaaDoorRows3
import Derived.Test.YtgmdljlbiokcaaaDoorLaws7
namespace Go.Proofs.YtgmdljlbiokcaaaDoor.fnExactConfigFrom
open Go.ChangeShapes Go.WideShapes Go.ChangeAt Go.RowKit Go.Deep Go.Joins
set_option linter.unusedVariables false
set_option maxRecDepth 100000

theorem cf_as {s : ByteArray} {b : Bool} {l : List Sh} (hr : cfS s = (b, l)) {w w' : World} {e : Ending} (h : CfEnd s w e w') : ∃ v, e = .returned (.tuple #[v, .bool b]) ∧ OwnSh w' w.heap.size v l ∧ Below w.heap.size w w' := by
  unfold CfEnd at h
  rw [hr] at h
  exact h
theorem cf_len {s : ByteArray} {b : Bool} {l : List Sh} (hr : cfS s = (b, l)) : l.length ≤ 40 := by
  cases b
  · have h : (cfS s).2 = [] ∨ (cfS s).1 = true := by
      unfold cfS
      split
      · exact .inr rfl
      · exact .inl rfl
    rw [hr] at h
    rcases h with h | h
    · rw [show l = [] from h]; simp
    · exact absurd h (by simp)
  · have h := of_cf (s := s) (by rw [hr])
    rw [hr] at h
    exact cfg_short h.1

set_option maxHeartbeats 4000000 in
theorem walk (s : ByteArray) (W : World) (hs : s.size ≤ maxLen) (hE : HErr W) (hL : HLen W) :
    Calls Tryd.prog 6 #[.string s] W fun e W' => e = .returned (.bool true) ∧ Below W.heap.size W W' := by
  unfold maxLen at hs
  by_cases hn : 1048576 < s.size
  · go_enter Tryd.func6, Tryd.ntmps6
    go_wp2_with fail
    go_ret
    exact ⟨rfl, Below.refl _ _⟩
  · obtain ⟨b, l, hr⟩ : ∃ b l, cfS s = (b, l) := ⟨(cfS s).1, (cfS s).2, rfl⟩
    have hln := cf_len hr
    have HS := Lib.hid (fun w => (spec_cf s (by omega) w).mono fun _ _ h => cf_as hr h)
    have HI := Lib.hid (fun w hE hL => (impl_cf s (by omega) w hE hL).mono fun _ _ h => cf_as hr h)
    clear hr
    cases b
    all_goals
      go_enter Tryd.func6, Tryd.ntmps6
      go_wp2_with fail
      refine (HS.out _).mono ?_
      rintro e w1 ⟨v0, rfl, P1, L1⟩
      have B1 := blk P1
      have hz1 := L1.size
      go_wp2_with fail
      refine (HI.out _ (herr_bel hE L1) (hlen_bel hL L1)).mono ?_
      rintro e w2 ⟨v1, rfl, Q2, hb2⟩
      have P2 := P1.below hb2
      have L2 := bel_trans L1 hb2
      have hz2 := hb2.size
      clear P1 L1 hb2
      go_wp2_with fail
      refine (eq_shells _ _ l _ Q2.at_ P2.at_).mono ?_
      rintro e w3 ⟨rfl, hb3⟩
      have P3 := P2.below hb3
      have Q3 := Q2.below hb3
      have L3 := bel_trans L2 hb3
      clear P2 Q2 L2 hb3
      go_wp2_with fail
      refine (mark_shells _ _ _ _ (toFree Q3) (by omega)).mono ?_
      rintro e w4 ⟨rfl, hg4, M4⟩
      have hz4 := hg4.size
      have P4 := P3.kept hg4 (ne_blk fun k hk e => by have := B1 k hk; have := (blk Q3) k e; omega)
      have L4 := L3.grown hg4 L3.size (fun k e => by have := (blk Q3) k e; have := (blk P3); omega)
      have M4 := M4.more hz4
      clear P3 Q3 L3 hg4 hz4
      go_wp2_with fail
      refine (held_shells _ _ _ M4 (by omega)).mono ?_
      rintro e w' ⟨rfl, rfl⟩
      go_wp2_with fail
      refine (HI.out _ (herr_bel hE L4) (hlen_bel hL L4)).mono ?_
      rintro e w5 ⟨v2, rfl, Q5, hb5⟩
      have P5 := P4.below hb5
      have M5 := M4.bel hb5
      have L5 := bel_trans L4 hb5
      clear P4 M4 L4 hb5
      go_wp2_with fail
      refine (eq_shells _ _ l _ Q5.at_ P5.at_).mono ?_
      rintro e w6 ⟨rfl, hb6⟩
      have M6 := M5.bel hb6
      have L6 := bel_trans L5 hb6
      clear P5 M5 L5 hb6 Q5
      go_wp2_with fail
      refine (held_shells _ _ _ M6 (by omega)).mono ?_
      rintro e w' ⟨rfl, rfl⟩
      go_wp2_with fail
      go_ret
      exact ⟨rfl, L6⟩

set_option maxRecDepth 100000 in
theorem lifted (os : Os) (started : os.Started) (H : Type) (enc : TypeId × Value → H) :
    ReturnsInHanded {} Tryd.checked os 6 .any (fun w args => (Rows.fnExactConfigFromSpec.pre enc Tryd.prog Tryd.f6 [] false w args ∧ laidMetH Tryd.prog laidC w) ∧ sizedMet enc Tryd.prog Tryd.f6 (OpenSpec.ofChange Rows.fnExactConfigFromSpec) false w args)
      (Rows.fnExactConfigFromSpec.post enc Tryd.prog Tryd.f6 false true false false) := by
  refine handed_shaped (C := Tryd.checked) (X := fun w _ => laidMetH Tryd.prog laidC w) (fun _ _ _ hh h => h.of_heap hh) own started (by kernel_rfl) Tryd.func6
    (ChangeSpec.witness_shaped (enc := enc) (C := Tryd.checked) (os := os) (X := fun w _ => laidMetH Tryd.prog laidC w) false (World.laidAll Tryd.prog os laidC) #[.string ByteArray.empty] 8 (World.laidAll_os _ _ _) (World.shaped_of_ZipB (by kernel_rfl) (by kernel_rfl)) (by kernel_rfl) (by kernel_rfl) (by kernel_rfl) (met_C os _)) ?_
  intro W base args ds gs before hval0 hW hSH hL
  have hval : ∀ (j : Nat) t v, Tryd.f6.params[j]? = some t → args[j]? = some v → Value.okWide Tryd.prog W .any base t v := hval0
  have hW' := hW
  have hlt := hW.lt
  obtain ⟨p, q, hA0, hV, rfl, hfz, hnd⟩ := hW
  have hA : DataW.TrodAll enc Tryd.prog W 0 (fun _ => true) true Tryd.f6.params.toList args.toList ds p := hA0
  rw [Tryd.params6] at hA hval
  obtain ⟨v0, vs0, d0, ds0, p0, q0, hargs, rfl, rfl, h0, r0⟩ := trodAll_cons hA
  obtain ⟨rfl, rfl, rfl⟩ := trodAll_nil r0
  obtain rfl : args = #[v0] := by cases args; simp_all
  obtain ⟨rfl, rfl⟩ := trodVars_none hV
  clear hA0 hval0 hA hfz hnd
  obtain ⟨s0, rfl, rfl, rfl, hs0⟩ := Go.ChangeMaps.open_string Tryd.underlying9 (hval 0 9 v0 rfl rfl) h0
  exact law_close laidOut (by kernel_rfl) rfl Tryd.underlying4 rfl rfl hW' (walk s0 W hs0 (herr_C hL) (hlen_of hSH))

theorem over : Rows.fnExactConfigFromRow.holds Tryd.pinned (OpenSpec.ofChange Rows.fnExactConfigFromSpec) :=
  OpenClaim.holds_of_wide 6 Tryd.f6 rfl rfl rfl rfl rfl rfl rfl ⟨rfl, rfl, rfl, rfl, rfl⟩ rfl rfl rfl rfl rfl (by kernel_rfl) Tryd.func6 (by kernel_rfl)
    (of_decide_eq_true (by kernel_rfl)) (by unfold Func.isWrapper; first | (rw [if_pos (by decide +kernel)]; kernel_rfl) | (rw [if_neg (by decide +kernel)]; exact ⟨rfl, rfl⟩))
    (fun os started H enc _ => lifted os started H enc)

theorem proved : Rows.FnExactConfigFromCardSaid :=
  Claim7.holds_tied_plain_at .later [] [.data, .data, .data, .data, .sentinel, .sentinel, .pinned] true (true, "9d55f8f38b2e9220cbac9ad63bf2f7ba5c50bdd7a8d52423ef98bb2db296f581") true
    over (fun _ h => by cases h) (by kernel_rfl) (fun _ h => by cases h) fnExactConfigFrom_row_tie rfl ⟨rfl, rfl⟩ (by kernel_rfl) rfl
    (fun f fn hf hfn => by
      obtain rfl : f = 6 := Option.some.inj ((show Tryd.prog.funcNamed "loop.example/atomicspectra/laws.FnExactConfigFrom" = some 6 by kernel_rfl).symm.trans hf) |>.symm
      obtain rfl : fn = Tryd.f6 := (Option.some.inj (Tryd.func6.symm.trans hfn)).symm
      exact ⟨by kernel_rfl, fun j t ht => by
        rw [Tryd.params6] at ht
        have hm : t ∈ [9] := by simpa using Array.mem_of_getElem? ht
        have hall : ([9].all fun u => !Tryd.prog.wantsStandIn u) = true := by kernel_rfl
        exact (show Tryd.prog.wantsStandIn t = false by simpa using List.all_eq_true.1 hall t hm)⟩)
    (by kernel_rfl)
end Go.Proofs.YtgmdljlbiokcaaaDoor.fnExactConfigFrom
