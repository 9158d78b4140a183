/- The greatest spin sum is the last one: the law returns true for all bytes. No condition. -/
import Derived.Test.YtdfpcbbhapihiaaDoorMicroTop
import Derived.Test.YtdfpcbbhapihiaaDoorDrawMicro
import Derived.Test.YtdfpcbbhapihiaaDoorDoorLaw
namespace Go.Proofs.YtdfpcbbhapihiaaDoor.fnMicroSpin
open Go.ChangeShapes Go.WideShapes Go.ChangeAt Go.RowKit Go.Deep Go.Joins micro
set_option linter.unusedVariables false

theorem MC_val' {m : Nat} {n : Int} (hv : evB (m : Int) n = true) (o s : Int) : MC m n o s = cntP (ms m n) o s := by rw [MC, if_pos hv, Int.toNat_natCast]

def prop (l n : Nat) (o s : Int) : Bool := TN l n o s == 0 || (decide (s ≤ n) && decide (s ≤ 4 * (l : Int) + 2 - n))
theorem chk : tryAll prop = true := by decide +kernel

set_option maxHeartbeats 4000000 in
set_option maxRecDepth 100000 in
theorem walk (a : Option Addr) (n c : Nat) (W : World) (hnc : n ≤ c) (hcm : c ≤ maxLen) (hb : Bytes W W.heap.size a n) (hT : Tab W) :
    Calls Tryd.prog 3 #[.slice a n c] W fun e W' => e = .returned (.bool true) ∧ Below W.heap.size W W' := by
  have hcm' := hcm
  unfold maxLen at hcm'
  have HT := Lib.hid hT
  clear hT
  by_cases hn : 1048576 < n
  · go_enter Tryd.func3, Tryd.ntmps3
    go_wp2_with fail
    go_ret
    exact ⟨rfl, (by repeat (first | exact Below.refl _ _ | assumption | refine bel_drewN ?_ _ | refine bel_drew ?_ | refine bel_alloc ?_ _ | refine bel_set ?_ (by simp; omega) _ | refine bel_set ?_ (by simp) _ | refine bel_trans ?_ (by assumption)))⟩
  · go_enter Tryd.func3, Tryd.ntmps3
    go_wp2_with fail
    refine (draw_mp _ _ _ _ hnc hcm hb).mono ?_
    rintro e w1 ⟨l, k, y, rfl, hx, hb1⟩
    obtain ⟨x1, x2, x3, x4, x5, x6⟩ := hx
    clear hb
    go_wp2_with fail
    refine (impl_xms _ _ _ _ (HT.out.bel hb1)).mono ?_
    rintro e w2 ⟨rfl, hb2⟩
    have L2 := bel_trans hb1 hb2
    have HT2 := Lib.hid (HT.out.bel L2)
    clear hb1 hb2
    go_wp2_with fail
    refine (spec_xms _ _ _ _).mono ?_
    rintro e w' ⟨rfl, rfl⟩
    cases hv : evB l k
    · have hM : MS l k y = -1 := by simp [MS, hv]
      rw [hM]
      clear hM hv
      go_wp2_with fail
      go_ret
      exact ⟨rfl, L2⟩
    · have hvv := evB_true.1 hv
      obtain ⟨m, rfl⟩ := Int.eq_ofNat_of_zero_le hvv.1
      have hm : m ≤ 2 := by omega
      have hM : MS m k y = topP (·.2) (·.1) y (ms m k) := by rw [MS, if_pos hv, Int.toNat_natCast]
      obtain ⟨f1, f2, f3, f4⟩ := ms_facts (n := k) (y := y) hm
      obtain ⟨T, hT⟩ : ∃ T, topP (·.2) (·.1) y (ms m k) = T := ⟨_, rfl⟩
      rw [hT] at hM f1 f2 f3 f4
      have hmc := fun x z => MC_val' hv x z
      rw [hM]
      clear hM hT hv
      by_cases hT0 : T < 0
      · clear f3 f4
        go_wp2_with fail
        go_ret
        exact ⟨by simp, L2⟩
      · have p0 := f4 (by omega) T rfl
        have z1 := f3 (T + 2) (by omega)
        have z2 := f3 (T + 4) (by omega)
        have M0 := hmc y T
        have M1 := (hmc y (T + 2)).trans (by rw [z1])
        have M2 := (hmc y (T + 4)).trans (by rw [z2])
        obtain ⟨E, hE⟩ : ∃ E, cntP (ms m k) y T = E := ⟨_, rfl⟩
        rw [hE] at M0 p0
        obtain ⟨q, rfl⟩ := Int.eq_ofNat_of_zero_le hvv.2.2.1
        have hq : q ≤ 4 * m + 2 := by omega
        have hA := MC_at hm (show 0 ≤ (q : Int) by omega) (by omega) y T
        rw [Int.toNat_natCast, M0] at hA
        have hp := tryAll_at chk hm hq (show -8 ≤ y ∧ y ≤ 8 by omega) (show -6 ≤ T ∧ T ≤ 6 by omega)
        simp only [prop, Bool.or_eq_true, beq_iff_eq, Bool.and_eq_true, decide_eq_true_eq] at hp
        have hp := hp.resolve_left (by omega)
        have d0 : decide (0 < E) = true := by simpa using p0
        have d1 : decide (T ≤ (q : Int)) = true := by simpa using hp.1
        have d2 : decide (T ≤ 4 * (m : Int) + 2 - q) = true := by simpa using hp.2
        have hqi : (q : Int) ≤ 4 * m + 2 := by omega
        have hmi : (m : Int) ≤ 2 := by omega
        have M0 := Lib.hid M0
        have M1 := Lib.hid (show MC m q y (T + 2) = 0 from M1)
        have M2 := Lib.hid (show MC m q y (T + 4) = 0 from M2)
        clear hE z1 z2 f3 f4 hmc hA hp
        go_wp2_with fail
        refine (impl_mcz M0.out HT2.out).mono ?_
        rintro e w3 ⟨rfl, hc3⟩
        have L3 := bel_trans L2 hc3
        clear hc3
        go_wp2_with fail
        refine (impl_mcz M1.out (HT.out.bel L3)).mono ?_
        rintro e w4 ⟨rfl, hc4⟩
        have L4 := bel_trans L3 hc4
        clear hc4
        go_wp2_with fail
        refine (impl_mcz M2.out (HT.out.bel L4)).mono ?_
        rintro e w5 ⟨rfl, hc5⟩
        have L5 := bel_trans L4 hc5
        clear hc5
        go_wp2_with fail
        go_ret
        exact ⟨rfl, L5⟩

set_option maxRecDepth 100000 in
theorem lifted (os : Os) (started : os.Started) (H : Type) (enc : TypeId × Value → H) :
    ReturnsInHanded {} Tryd.checked os 3 .any (fun w args => (Rows.fnMicroSpinSpec.pre enc Tryd.prog Tryd.f3 [] false w args ∧ laidMetH Tryd.prog laidL w) ∧ sizedMet enc Tryd.prog Tryd.f3 (OpenSpec.ofChange Rows.fnMicroSpinSpec) false w args)
      (Rows.fnMicroSpinSpec.post enc Tryd.prog Tryd.f3 false true false false) := by
  refine returnsInHanded_of_change_and (C := Tryd.checked) (X := fun w _ => laidMetH Tryd.prog laidL w) (fun _ _ _ hh h => h.of_heap hh) own started (by kernel_rfl) Tryd.func3
    (ChangeSpec.witness_shaped (enc := enc) (C := Tryd.checked) (os := os) (X := fun w _ => laidMetH Tryd.prog laidL w) false (World.doorLaid Tryd.prog 400 os) #[.slice none 0 0] 8 rfl (World.shaped_of_RefB (by kernel_rfl) (by kernel_rfl)) (by kernel_rfl) (by kernel_rfl) (by kernel_rfl) (door_met os _)) ?_
  intro W base args ds gs before hval0 hW _ _ hL _
  have hval : ∀ (j : Nat) t v, Tryd.f3.params[j]? = some t → args[j]? = some v → Value.okWide Tryd.prog W .any base t v := hval0
  have hW' := hW
  have hlt := hW.lt
  obtain ⟨p, q, hA0, hV, rfl, hfz, hnd⟩ := hW
  have hA : DataW.TrodAll enc Tryd.prog W 0 (fun _ => true) true Tryd.f3.params.toList args.toList ds p := hA0
  rw [Tryd.params3] at hA hval
  obtain ⟨v0, vs0, d0, ds0, p0, q0, hargs, rfl, rfl, h0, r0⟩ := trodAll_cons hA
  obtain ⟨rfl, rfl, rfl⟩ := trodAll_nil r0
  obtain rfl : args = #[v0] := by cases args; simp_all
  obtain ⟨rfl, rfl⟩ := trodVars_none hV
  clear hA0 hval0 hA hfz hnd
  obtain ⟨a0, n0, c0, rfl, hnc0, hcm0, hb0⟩ := open_bytes Tryd.underlying22 Tryd.underlying5 (by kernel_rfl) (hval 0 22 v0 rfl rfl) h0 (fun x hx => hlt x (by simp [hx]))
  exact law_close laidOut (by kernel_rfl) rfl Tryd.underlying4 rfl rfl hW' (walk a0 n0 c0 W hnc0 hcm0 hb0 (tab_of_laid hL))

theorem over : Rows.fnMicroSpinRow.holds Tryd.pinned (OpenSpec.ofChange Rows.fnMicroSpinSpec) :=
  OpenClaim.holds_of_wide 3 Tryd.f3 rfl rfl rfl rfl rfl rfl rfl ⟨rfl, rfl, rfl, rfl, rfl⟩ rfl rfl rfl rfl rfl (by kernel_rfl) Tryd.func3 (by kernel_rfl)
    (of_decide_eq_true (by kernel_rfl)) (by unfold Func.isWrapper; first | (rw [if_pos (by decide +kernel)]; kernel_rfl) | (rw [if_neg (by decide +kernel)]; exact ⟨rfl, rfl⟩))
    (fun os started H enc _ => lifted os started H enc)

theorem proved : Rows.FnMicroSpinCardSaid :=
  Claim7.holds_tied_plain_at .later [] [.data, .data] true (true, "090fae7ccdb994b045bc10e943a26869563d5a0d58386d1d88e68d6085c94748") false
    over (fun _ h => by cases h) (by kernel_rfl) (fun _ h => by cases h) fnMicroSpin_row_tie rfl ⟨rfl, rfl⟩ (by kernel_rfl) rfl
    (fun f fn hf hfn => by
      obtain rfl : f = 3 := Option.some.inj ((show Tryd.prog.funcNamed "loop.example/atomicspectra/laws.FnMicroSpin" = some 3 by kernel_rfl).symm.trans hf) |>.symm
      obtain rfl : fn = Tryd.f3 := (Option.some.inj (Tryd.func3.symm.trans hfn)).symm
      exact ⟨by kernel_rfl, fun j t ht => by
        rw [Tryd.params3] at ht
        have hm : t ∈ [22] := by simpa using Array.mem_of_getElem? ht
        have hall : ([22].all fun u => !Tryd.prog.wantsStandIn u) = true := by kernel_rfl
        exact (show Tryd.prog.wantsStandIn t = false by simpa using List.all_eq_true.1 hall t hm)⟩)
    (by kernel_rfl)
end Go.Proofs.YtdfpcbbhapihiaaDoor.fnMicroSpin
