/- RootText of the program and of the reference return the same, for all arguments. No condition but the tables of the library that the row lists. -/
import Derived.Test.YtefddmfnjneegaaDoorRtText
import Derived.Test.YtefddmfnjneegaaDoorOpenRoot
namespace Go.Proofs.YtefddmfnjneegaaDoor.fnExactRootText
open Go.ChangeShapes Go.WideShapes Go.ChangeAt Go.RowKit Go.Deep Go.Joins
set_option linter.unusedVariables false
set_option maxRecDepth 100000

set_option maxHeartbeats 2000000 in
theorem walk (s n d : Int) (W : World) (hs : -9223372036854775808 ≤ s ∧ s ≤ 9223372036854775807) (hn : -9223372036854775808 ≤ n ∧ n ≤ 9223372036854775807) (hd : -9223372036854775808 ≤ d ∧ d ≤ 9223372036854775807) (hT : TabP W) :
    Calls Tryd.prog 3 #[.agg #[.int .i64 s, .int .i64 n, .int .i64 d]] W fun e W' => e = .returned (.bool true) ∧ Below W.heap.size W W' := by
  have HS := Lib.hid (fun w => spec_rt s n d w)
  have HI := Lib.hid (fun w => impl_rt s n d w)
  have HT := Lib.hid hT
  clear hs hn hd hT
  generalize rtS (s, n, d) = t at *
  go_enter Tryd.func3, Tryd.ntmps3
  go_wp2_with fail
  have O0 := Own.new W 25 #[.int .i64 s, .int .i64 n, .int .i64 d]
  refine (to_root s n d _).mono ?_
  rintro e w1 ⟨rfl, hb1⟩
  have L1 := bel_trans (bel_alloc (Below.refl _ _) _) hb1
  have O1 := O0.below hb1
  clear hb1 O0
  go_wp2_with fail
  refine (HS.out _).mono ?_
  rintro e w2 ⟨rfl, hb2⟩
  have L2 := bel_trans L1 hb2
  have O2 := O1.below hb2
  have q0 : w2.cell? ⟨W.heap.size, 0, none⟩ = some (.int .i64 s) := O2.cell 0
  have q1 : w2.cell? ⟨W.heap.size, 1, none⟩ = some (.int .i64 n) := O2.cell 1
  have q2 : w2.cell? ⟨W.heap.size, 2, none⟩ = some (.int .i64 d) := O2.cell 2
  have ql := O2.lt
  clear hb2 O1 L1
  go_wp2_with fail
  refine (to_root s n d _).mono ?_
  rintro e w3 ⟨rfl, hb3⟩
  have L3 := bel_trans L2 hb3
  go_wp2_with fail
  refine (HI.out _ (tabP_bel HT.out L3)).mono ?_
  rintro e w4 ⟨rfl, hb4⟩
  go_wp2_with fail
  go_ret
  exact ⟨rfl, bel_trans L3 hb4⟩

set_option maxRecDepth 100000 in
theorem lifted (os : Os) (started : os.Started) (H : Type) (enc : TypeId × Value → H) :
    ReturnsInHanded {} Tryd.checked os 3 .any (fun w args => (Rows.fnExactRootTextSpec.pre enc Tryd.prog Tryd.f3 [] false w args ∧ laidMetH Tryd.prog laidL w) ∧ sizedMet enc Tryd.prog Tryd.f3 (OpenSpec.ofChange Rows.fnExactRootTextSpec) false w args)
      (Rows.fnExactRootTextSpec.post enc Tryd.prog Tryd.f3 false true false false) := by
  refine returnsInHanded_of_change_and (C := Tryd.checked) (X := fun w _ => laidMetH Tryd.prog laidL w) (fun _ _ _ hh h => h.of_heap hh) own started (by kernel_rfl) Tryd.func3
    (ChangeSpec.witness_shaped (enc := enc) (C := Tryd.checked) (os := os) (X := fun w _ => laidMetH Tryd.prog laidL w) false (World.doorLaid Tryd.prog 400 os) #[.agg #[.int .i64 0, .int .i64 0, .int .i64 0]] 8 rfl (World.shaped_of_RefB (by kernel_rfl) (by kernel_rfl)) (by kernel_rfl) (by kernel_rfl) (by kernel_rfl) (door_met os _)) ?_
  intro W base args ds gs before hval0 hW _ _ hL _
  have hval : ∀ (j : Nat) t v, Tryd.f3.params[j]? = some t → args[j]? = some v → Value.okWide Tryd.prog W .any base t v := hval0
  have hW' := hW
  have hlt := hW.lt
  obtain ⟨p, q, hA0, hV, rfl, hfz, hnd⟩ := hW
  have hA : DataW.TrodAll enc Tryd.prog W 0 (fun _ => true) true Tryd.f3.params.toList args.toList ds p := hA0
  rw [Tryd.params3] at hA hval
  obtain ⟨v0, vs0, d0, ds0, p0, q0, hargs, rfl, rfl, h0, r0⟩ := trodAll_cons hA
  obtain ⟨rfl, rfl, rfl⟩ := trodAll_nil r0
  obtain rfl : args = #[v0] := by cases args; simp_all
  obtain ⟨rfl, rfl⟩ := trodVars_none hV
  clear hA0 hval0 hA hfz hnd
  obtain ⟨a0_0, a0_1, a0_2, rfl, rfl, rfl, w0_0, w0_1, w0_2⟩ := open_root (hval 0 25 v0 rfl rfl) h0
  have b0_0 := int_bounds w0_0
  have b0_1 := int_bounds w0_1
  have b0_2 := int_bounds w0_2
  exact law_close laidOut (by kernel_rfl) rfl Tryd.underlying4 rfl rfl hW' (walk a0_0 a0_1 a0_2 W b0_0 b0_1 b0_2 (tab_of_laid hL))

theorem over : Rows.fnExactRootTextRow.holds Tryd.pinned (OpenSpec.ofChange Rows.fnExactRootTextSpec) :=
  OpenClaim.holds_of_wide 3 Tryd.f3 rfl rfl rfl rfl rfl rfl rfl ⟨rfl, rfl, rfl, rfl, rfl⟩ rfl rfl rfl rfl rfl (by kernel_rfl) Tryd.func3 (by kernel_rfl)
    (of_decide_eq_true (by kernel_rfl)) (by unfold Func.isWrapper; first | (rw [if_pos (by decide +kernel)]; kernel_rfl) | (rw [if_neg (by decide +kernel)]; exact ⟨rfl, rfl⟩))
    (fun os started H enc _ => lifted os started H enc)

theorem proved : Rows.FnExactRootTextCardSaid :=
  Claim7.holds_tied_plain_at .later [] [.data, .data, .data] true (true, "62c303df8f6247dc743a00239116ec8e906292d6f9a1d3d77de2c78033d29d9a") false
    over (fun _ h => by cases h) (by kernel_rfl) (fun _ h => by cases h) fnExactRootText_row_tie rfl ⟨rfl, rfl⟩ (by kernel_rfl) rfl
    (fun f fn hf hfn => by
      obtain rfl : f = 3 := Option.some.inj ((show Tryd.prog.funcNamed "loop.example/atomicspectra/laws.FnExactRootText" = some 3 by kernel_rfl).symm.trans hf) |>.symm
      obtain rfl : fn = Tryd.f3 := (Option.some.inj (Tryd.func3.symm.trans hfn)).symm
      exact ⟨by kernel_rfl, fun j t ht => by
        rw [Tryd.params3] at ht
        have hm : t ∈ [25] := by simpa using Array.mem_of_getElem? ht
        have hall : ([25].all fun u => !Tryd.prog.wantsStandIn u) = true := by kernel_rfl
        exact (show Tryd.prog.wantsStandIn t = false by simpa using List.all_eq_true.1 hall t hm)⟩)
    (by kernel_rfl)
end Go.Proofs.YtefddmfnjneegaaDoor.fnExactRootText
