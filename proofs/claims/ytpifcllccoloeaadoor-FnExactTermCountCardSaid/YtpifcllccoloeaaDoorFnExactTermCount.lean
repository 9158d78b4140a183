/- TermCount of the program and of the reference return the same, for all arguments. No condition. -/
import Derived.Test.YtpifcllccoloeaaDoorTermCount
import Derived.Test.YtpifcllccoloeaaDoorDoorLaw
namespace Go.Proofs.YtpifcllccoloeaaDoor.fnExactTermCount
open Go.ChangeShapes Go.WideShapes Go.ChangeAt Go.RowKit Go.Deep Go.Joins
set_option linter.unusedVariables false

theorem walk (l n s o : Int) (W : World) (bl : -9223372036854775808 ≤ l ∧ l ≤ 9223372036854775807) (bn : -9223372036854775808 ≤ n ∧ n ≤ 9223372036854775807) (bs : -9223372036854775808 ≤ s ∧ s ≤ 9223372036854775807) (bo : -9223372036854775808 ≤ o ∧ o ≤ 9223372036854775807) (hT : Tab W) :
    Calls Tryd.prog 6 #[.int .i64 l, .int .i64 n, .agg #[.int .i64 s, .int .i64 o]] W fun e W' => e = .returned (.bool true) ∧ Below W.heap.size W W' := by
  have HT := Lib.hid hT
  clear hT
  go_enter Tryd.func6, Tryd.ntmps6
  go_wp2_with fail
  refine (to_term _ _ _).mono ?_
  rintro e w1 ⟨rfl, hb1⟩
  have O1 := (Own.new W 27 #[.int .i64 s, .int .i64 o]).below hb1
  have L1 := bel_trans (bel_alloc (Below.refl _ _) _) hb1
  have q1 := O1.cell
  have l1 := O1.lt
  clear hb1
  go_wp2_with fail
  refine (spec_tc _ _ _ _ _).mono ?_
  rintro e w2 ⟨rfl, hb2⟩
  have L2 := bel_trans L1 hb2
  have O2 := O1.below hb2
  have q2 := O2.cell
  have l2 := O2.lt
  clear hb2 q1 l1 O1 L1
  go_wp2_with fail
  refine (to_term _ _ _).mono ?_
  rintro e w3 ⟨rfl, hb3⟩
  have L3 := bel_trans L2 hb3
  clear hb3 L2 q2 l2 O2
  go_wp2_with fail
  refine (impl_tc _ _ _ _ _ (HT.out.bel L3)).mono ?_
  rintro e w4 ⟨rfl, hb4⟩
  have L4 := bel_trans L3 hb4
  clear hb4 L3
  go_wp2_with fail
  go_ret
  exact ⟨rfl, L4⟩

set_option maxRecDepth 100000 in
theorem lifted (os : Os) (started : os.Started) (H : Type) (enc : TypeId × Value → H) :
    ReturnsInHanded {} Tryd.checked os 6 .any (fun w args => (Rows.fnExactTermCountSpec.pre enc Tryd.prog Tryd.f6 [] false w args ∧ laidMetH Tryd.prog laidL w) ∧ sizedMet enc Tryd.prog Tryd.f6 (OpenSpec.ofChange Rows.fnExactTermCountSpec) false w args)
      (Rows.fnExactTermCountSpec.post enc Tryd.prog Tryd.f6 false true false false) := by
  refine returnsInHanded_of_change_and (C := Tryd.checked) (X := fun w _ => laidMetH Tryd.prog laidL w) (fun _ _ _ hh h => h.of_heap hh) own started (by kernel_rfl) Tryd.func6
    (ChangeSpec.witness_shaped (enc := enc) (C := Tryd.checked) (os := os) (X := fun w _ => laidMetH Tryd.prog laidL w) false (World.doorLaid Tryd.prog 400 os) #[.int .i64 0, .int .i64 0, .agg #[.int .i64 0, .int .i64 0]] 8 rfl (World.shaped_of_RefB (by kernel_rfl) (by kernel_rfl)) (by kernel_rfl) (by kernel_rfl) (by kernel_rfl) (door_met os _)) ?_
  intro W base args ds gs before hval0 hW _ _ hL _
  have hval : ∀ (j : Nat) t v, Tryd.f6.params[j]? = some t → args[j]? = some v → Value.okWide Tryd.prog W .any base t v := hval0
  have hW' := hW
  have hlt := hW.lt
  obtain ⟨p, q, hA0, hV, rfl, hfz, hnd⟩ := hW
  have hA : DataW.TrodAll enc Tryd.prog W 0 (fun _ => true) true Tryd.f6.params.toList args.toList ds p := hA0
  rw [Tryd.params6] at hA hval
  obtain ⟨v0, vs0, d0, ds0, p0, q0, hargs, rfl, rfl, h0, r0⟩ := trodAll_cons hA
  obtain ⟨v1, vs1, d1, ds1, p1, q1, rfl, rfl, rfl, h1, r1⟩ := trodAll_cons r0
  obtain ⟨v2, vs2, d2, ds2, p2, q2, rfl, rfl, rfl, h2, r2⟩ := trodAll_cons r1
  obtain ⟨rfl, rfl, rfl⟩ := trodAll_nil r2
  obtain rfl : args = #[v0, v1, v2] := by cases args; simp_all
  obtain ⟨rfl, rfl⟩ := trodVars_none hV
  clear hA0 hval0 hA hfz hnd
  obtain ⟨a0, rfl, rfl, rfl, w0⟩ := open_int Tryd.underlying3 (hval 0 3 v0 rfl rfl) h0
  have b0 := int_bounds w0
  obtain ⟨a1, rfl, rfl, rfl, w1⟩ := open_int Tryd.underlying3 (hval 1 3 v1 rfl rfl) h1
  have b1 := int_bounds w1
  obtain ⟨c2_0, c2_1, y2_0, y2_1, m2, rfl, rfl, rfl, hy2_0, hy2_1⟩ := open_agg2 Tryd.underlying27 (by kernel_rfl) (by kernel_rfl) (hval 2 27 v2 rfl rfl) h2
  obtain ⟨a2_0, e2_0, rfl, w2_0⟩ := DataW.trod_int Tryd.underlying3 hy2_0
  obtain ⟨a2_1, e2_1, rfl, w2_1⟩ := DataW.trod_int Tryd.underlying3 hy2_1
  simp at e2_0 e2_1
  subst e2_0 e2_1
  have b2_0 := int_bounds w2_0
  have b2_1 := int_bounds w2_1
  exact law_close laidOut (by kernel_rfl) rfl Tryd.underlying4 rfl rfl hW' (walk a0 a1 a2_0 a2_1 W b0 b1 b2_0 b2_1 (tab_of_laid hL))

theorem over : Rows.fnExactTermCountRow.holds Tryd.pinned (OpenSpec.ofChange Rows.fnExactTermCountSpec) :=
  OpenClaim.holds_of_wide 6 Tryd.f6 rfl rfl rfl rfl rfl rfl rfl ⟨rfl, rfl, rfl, rfl, rfl⟩ rfl rfl rfl rfl rfl (by kernel_rfl) Tryd.func6 (by kernel_rfl)
    (of_decide_eq_true (by kernel_rfl)) (by unfold Func.isWrapper; first | (rw [if_pos (by decide +kernel)]; kernel_rfl) | (rw [if_neg (by decide +kernel)]; exact ⟨rfl, rfl⟩))
    (fun os started H enc _ => lifted os started H enc)

theorem proved : Rows.FnExactTermCountCardSaid :=
  Claim7.holds_tied_plain_at .later [] [.data, .data] true (true, "421f60f55b9635ae4c29fb2caa55aab8030e4a1addd88a1e13af11e3349b34a5") false
    over (fun _ h => by cases h) (by kernel_rfl) (fun _ h => by cases h) fnExactTermCount_row_tie rfl ⟨rfl, rfl⟩ (by kernel_rfl) rfl
    (fun f fn hf hfn => by
      obtain rfl : f = 6 := Option.some.inj ((show Tryd.prog.funcNamed "loop.example/atomicspectra/laws.FnExactTermCount" = some 6 by kernel_rfl).symm.trans hf) |>.symm
      obtain rfl : fn = Tryd.f6 := (Option.some.inj (Tryd.func6.symm.trans hfn)).symm
      exact ⟨by kernel_rfl, fun j t ht => by
        rw [Tryd.params6] at ht
        have hm : t ∈ [3, 3, 27] := by simpa using Array.mem_of_getElem? ht
        have hall : ([3, 3, 27].all fun u => !Tryd.prog.wantsStandIn u) = true := by kernel_rfl
        exact (show Tryd.prog.wantsStandIn t = false by simpa using List.all_eq_true.1 hall t hm)⟩)
    (by kernel_rfl)
end Go.Proofs.YtpifcllccoloeaaDoor.fnExactTermCount
