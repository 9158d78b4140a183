/- Greater sums are rarer: the law returns true for all bytes. No condition. -/
import Derived.Test.YtpifcllccoloeaaDoorMicroAt
import Derived.Test.YtpifcllccoloeaaDoorDrawMicro
import Derived.Test.YtpifcllccoloeaaDoorDoorLaw
namespace Go.Proofs.YtpifcllccoloeaaDoor.fnMicroFalls
open Go.ChangeShapes Go.WideShapes Go.ChangeAt Go.RowKit Go.Deep Go.Joins micro
set_option linter.unusedVariables false

def prop (l n : Nat) (o s : Int) : Bool := (decide (o < 0) || decide (TN l n (o + 1) s ≤ TN l n o s)) && (decide (s < 0) || decide (TN l n o (s + 2) ≤ TN l n o s))
theorem chk : tryAll prop = true := by decide +kernel

set_option maxHeartbeats 4000000 in
set_option maxRecDepth 100000 in
theorem walk (a : Option Addr) (n c : Nat) (W : World) (hnc : n ≤ c) (hcm : c ≤ maxLen) (hb : Bytes W W.heap.size a n) (hT : Tab W) :
    Calls Tryd.prog 9 #[.slice a n c] W fun e W' => e = .returned (.bool true) ∧ Below W.heap.size W W' := by
  have hcm' := hcm
  unfold maxLen at hcm'
  have HT := Lib.hid hT
  clear hT
  by_cases hn : 1048576 < n
  · go_enter Tryd.func9, Tryd.ntmps9
    go_wp2_with fail
    go_ret
    exact ⟨rfl, (by repeat (first | exact Below.refl _ _ | assumption | refine bel_drewN ?_ _ | refine bel_drew ?_ | refine bel_alloc ?_ _ | refine bel_set ?_ (by simp; omega) _ | refine bel_set ?_ (by simp) _ | refine bel_trans ?_ (by assumption)))⟩
  · go_enter Tryd.func9, Tryd.ntmps9
    go_wp2_with fail
    refine (draw_mc _ _ _ _ hnc hcm hb).mono ?_
    rintro e w1 ⟨l, k, o, s, rfl, hx, hb1⟩
    obtain ⟨x1, x2, x3, x4, x5, x6, x7, x8⟩ := hx
    clear hb
    go_wp2_with fail
    refine (impl_mc _ _ _ _ _ (HT.out.bel hb1)).mono ?_
    rintro e w2 ⟨rfl, hb2⟩
    have L2 := bel_trans hb1 hb2
    have HT2 := Lib.hid (HT.out.bel L2)
    clear hb1 hb2
    go_wp2_with fail
    refine (spec_mc _ _ _ _ _).mono ?_
    rintro e w' ⟨rfl, rfl⟩
    cases hv : evB l k
    · have hM : MC l k o s = -1 := by simp [MC, hv]
      rw [hM]
      clear hM hv
      go_wp2_with fail
      go_ret
      exact ⟨rfl, L2⟩
    · have hvv := evB_true.1 hv
      obtain ⟨m, rfl⟩ := Int.eq_ofNat_of_zero_le hvv.1
      obtain ⟨q, rfl⟩ := Int.eq_ofNat_of_zero_le hvv.2.2.1
      have hm : m ≤ 2 := by omega
      have hq : q ≤ 4 * m + 2 := by omega
      have hM := MC_at hm (show 0 ≤ (q : Int) by omega) (by omega) o s
      rw [Int.toNat_natCast] at hM
      have hp := tryAll_at chk hm hq ⟨x5, x6⟩ ⟨x7, x8⟩
      have hqi : (q : Int) ≤ 4 * m + 2 := by omega
      have hmi : (m : Int) ≤ 2 := by omega
      clear hv hvv x1 x2 x3 x4
      simp only [prop, Bool.and_eq_true, Bool.or_eq_true, decide_eq_true_eq] at hp
      obtain ⟨p1, p2⟩ := hp
      have m1 := MC_at hm (show (0 : Int) ≤ q by omega) (by omega) (o + 1) s
      have m2 := MC_at hm (show (0 : Int) ≤ q by omega) (by omega) o (s + 2)
      rw [Int.toNat_natCast] at m1 m2
      have y1 := TN_bd m q (o + 1) s
      have y2 := TN_bd m q o (s + 2)
      obtain ⟨y, hy⟩ : ∃ y, TN m q (o + 1) s = y := ⟨_, rfl⟩
      obtain ⟨z, hz⟩ : ∃ z, TN m q o (s + 2) = z := ⟨_, rfl⟩
      rw [hy] at m1 p1 y1
      rw [hz] at m2 p2 y2
      have M1 := Lib.hid m1
      have M2 := Lib.hid m2
      clear m1 m2 hy hz
      obtain ⟨E, hE⟩ : ∃ E, TN m q o s = E := ⟨_, rfl⟩
      have hEb := TN_bd m q o s
      rw [hM, hE]
      rw [hE] at hEb
      have hd : decide ((E : Int) < 0) = false := by rw [decide_eq_false_iff_not]; omega
      rw [hE] at p1 p2
      by_cases c1 : o < 0
      · by_cases c2 : s < 0
        · clear p1 p2
          go_wp2_with fail
          go_ret
          exact ⟨rfl, L2⟩
        · have d2 : decide (z ≤ E) = true := by have := p2.resolve_left c2; simp; omega
          clear p1 p2
          go_wp2_with fail
          refine (impl_mcz M2.out (HT2.out)).mono ?_
          rintro e w3 ⟨rfl, hcw3⟩
          have L3 := bel_trans L2 hcw3
          go_wp2_with fail
          go_ret
          exact ⟨by simp, L3⟩
      · have d1 : decide (y ≤ E) = true := by have := p1.resolve_left c1; simp; omega
        by_cases c2 : s < 0
        · clear p1 p2
          go_wp2_with fail
          refine (impl_mcz M1.out (HT2.out)).mono ?_
          rintro e w3 ⟨rfl, hcw3⟩
          have L3 := bel_trans L2 hcw3
          go_wp2_with fail
          go_ret
          exact ⟨by simp, L3⟩
        · have d2 : decide (z ≤ E) = true := by have := p2.resolve_left c2; simp; omega
          clear p1 p2
          go_wp2_with fail
          refine (impl_mcz M1.out (HT2.out)).mono ?_
          rintro e w3 ⟨rfl, hcw3⟩
          have L3 := bel_trans L2 hcw3
          go_wp2_with fail
          refine (impl_mcz M2.out ((HT.out.bel L3))).mono ?_
          rintro e w4 ⟨rfl, hcw4⟩
          have L4 := bel_trans L3 hcw4
          go_wp2_with fail
          go_ret
          exact ⟨by simp, L4⟩

set_option maxRecDepth 100000 in
theorem lifted (os : Os) (started : os.Started) (H : Type) (enc : TypeId × Value → H) :
    ReturnsInHanded {} Tryd.checked os 9 .any (fun w args => (Rows.fnMicroFallsSpec.pre enc Tryd.prog Tryd.f9 [] false w args ∧ laidMetH Tryd.prog laidL w) ∧ sizedMet enc Tryd.prog Tryd.f9 (OpenSpec.ofChange Rows.fnMicroFallsSpec) false w args)
      (Rows.fnMicroFallsSpec.post enc Tryd.prog Tryd.f9 false true false false) := by
  refine returnsInHanded_of_change_and (C := Tryd.checked) (X := fun w _ => laidMetH Tryd.prog laidL w) (fun _ _ _ hh h => h.of_heap hh) own started (by kernel_rfl) Tryd.func9
    (ChangeSpec.witness_shaped (enc := enc) (C := Tryd.checked) (os := os) (X := fun w _ => laidMetH Tryd.prog laidL w) false (World.doorLaid Tryd.prog 400 os) #[.slice none 0 0] 8 rfl (World.shaped_of_RefB (by kernel_rfl) (by kernel_rfl)) (by kernel_rfl) (by kernel_rfl) (by kernel_rfl) (door_met os _)) ?_
  intro W base args ds gs before hval0 hW _ _ hL _
  have hval : ∀ (j : Nat) t v, Tryd.f9.params[j]? = some t → args[j]? = some v → Value.okWide Tryd.prog W .any base t v := hval0
  have hW' := hW
  have hlt := hW.lt
  obtain ⟨p, q, hA0, hV, rfl, hfz, hnd⟩ := hW
  have hA : DataW.TrodAll enc Tryd.prog W 0 (fun _ => true) true Tryd.f9.params.toList args.toList ds p := hA0
  rw [Tryd.params9] at hA hval
  obtain ⟨v0, vs0, d0, ds0, p0, q0, hargs, rfl, rfl, h0, r0⟩ := trodAll_cons hA
  obtain ⟨rfl, rfl, rfl⟩ := trodAll_nil r0
  obtain rfl : args = #[v0] := by cases args; simp_all
  obtain ⟨rfl, rfl⟩ := trodVars_none hV
  clear hA0 hval0 hA hfz hnd
  obtain ⟨a0, n0, c0, rfl, hnc0, hcm0, hb0⟩ := open_bytes Tryd.underlying32 Tryd.underlying5 (by kernel_rfl) (hval 0 32 v0 rfl rfl) h0 (fun x hx => hlt x (by simp [hx]))
  exact law_close laidOut (by kernel_rfl) rfl Tryd.underlying4 rfl rfl hW' (walk a0 n0 c0 W hnc0 hcm0 hb0 (tab_of_laid hL))

theorem over : Rows.fnMicroFallsRow.holds Tryd.pinned (OpenSpec.ofChange Rows.fnMicroFallsSpec) :=
  OpenClaim.holds_of_wide 9 Tryd.f9 rfl rfl rfl rfl rfl rfl rfl ⟨rfl, rfl, rfl, rfl, rfl⟩ rfl rfl rfl rfl rfl (by kernel_rfl) Tryd.func9 (by kernel_rfl)
    (of_decide_eq_true (by kernel_rfl)) (by unfold Func.isWrapper; first | (rw [if_pos (by decide +kernel)]; kernel_rfl) | (rw [if_neg (by decide +kernel)]; exact ⟨rfl, rfl⟩))
    (fun os started H enc _ => lifted os started H enc)

theorem proved : Rows.FnMicroFallsCardSaid :=
  Claim7.holds_tied_plain_at .later [] [.data, .data] true (true, "421f60f55b9635ae4c29fb2caa55aab8030e4a1addd88a1e13af11e3349b34a5") false
    over (fun _ h => by cases h) (by kernel_rfl) (fun _ h => by cases h) fnMicroFalls_row_tie rfl ⟨rfl, rfl⟩ (by kernel_rfl) rfl
    (fun f fn hf hfn => by
      obtain rfl : f = 9 := Option.some.inj ((show Tryd.prog.funcNamed "loop.example/atomicspectra/laws.FnMicroFalls" = some 9 by kernel_rfl).symm.trans hf) |>.symm
      obtain rfl : fn = Tryd.f9 := (Option.some.inj (Tryd.func9.symm.trans hfn)).symm
      exact ⟨by kernel_rfl, fun j t ht => by
        rw [Tryd.params9] at ht
        have hm : t ∈ [32] := by simpa using Array.mem_of_getElem? ht
        have hall : ([32].all fun u => !Tryd.prog.wantsStandIn u) = true := by kernel_rfl
        exact (show Tryd.prog.wantsStandIn t = false by simpa using List.all_eq_true.1 hall t hm)⟩)
    (by kernel_rfl)
end Go.Proofs.YtpifcllccoloeaaDoor.fnMicroFalls
