/- Holes count as electrons for the number of terms: the law returns true for all bytes. No condition. -/
import Derived.Test.YtdfpcbbhapihiaaDoorMicroAt
import Derived.Test.YtdfpcbbhapihiaaDoorDrawTermCount
import Derived.Test.YtdfpcbbhapihiaaDoorDoorLaw
namespace Go.Proofs.YtdfpcbbhapihiaaDoor.fnTermCountHoles
open Go.ChangeShapes Go.WideShapes Go.ChangeAt Go.RowKit Go.Deep Go.Joins micro
set_option linter.unusedVariables false

def prop (l n : Nat) (o s : Int) : Bool := TN l (4 * l + 2 - n) o s == TN l n o s
theorem chk : tryAll prop = true := by decide +kernel
theorem TN_holes {l n : Nat} (hl : l ≤ 2) (hn : n ≤ 4 * l + 2) (o s : Int) : TN l (4 * l + 2 - n) o s = TN l n o s := by
  by_cases h : -6 ≤ o ∧ o ≤ 6 ∧ -6 ≤ s ∧ s ≤ 6
  · have := tryAll_at chk hl hn (o := o) (s := s) (by omega) (by omega)
    simpa [prop] using this
  · unfold TN
    rw [if_neg h, if_neg h]
theorem MC_holes {l n : Int} (hv : evB l n = true) (o s : Int) : MC l (4 * l + 2 - n) o s = MC l n o s := by
  have hvv := evB_true.1 hv
  obtain ⟨m, rfl⟩ := Int.eq_ofNat_of_zero_le hvv.1
  obtain ⟨q, rfl⟩ := Int.eq_ofNat_of_zero_le hvv.2.2.1
  have hm : m ≤ 2 := by omega
  have hq : q ≤ 4 * m + 2 := by omega
  rw [MC_at hm (show 0 ≤ (q : Int) by omega) (by omega) o s, MC_at hm (show 0 ≤ 4 * (m : Int) + 2 - q by omega) (by omega) o s, Int.toNat_natCast,
    show (4 * (m : Int) + 2 - q).toNat = 4 * m + 2 - q by omega, TN_holes hm hq]
theorem TC_holes {l n s o : Int} (h : 0 ≤ TC l n s o) : (0 ≤ l ∧ l ≤ 2 ∧ 0 ≤ n ∧ n ≤ 4 * l + 2) ∧ TC l (4 * l + 2 - n) s o = TC l n s o := by
  unfold TC at h ⊢
  by_cases hv : tvB s o = true ∧ evB l n = true
  · have hvv := evB_true.1 hv.2
    have hw : evB l (4 * l + 2 - n) = true := evB_true.2 (by omega)
    rw [if_pos hv, if_pos ⟨hv.1, hw⟩, MC_holes hv.2, MC_holes hv.2, MC_holes hv.2, MC_holes hv.2]
    exact ⟨hvv, rfl⟩
  · rw [if_neg hv] at h
    omega

set_option maxHeartbeats 4000000 in
set_option maxRecDepth 100000 in
theorem walk (a : Option Addr) (n c : Nat) (W : World) (hnc : n ≤ c) (hcm : c ≤ maxLen) (hb : Bytes W W.heap.size a n) (hT : Tab W) :
    Calls Tryd.prog 6 #[.slice a n c] W fun e W' => e = .returned (.bool true) ∧ Below W.heap.size W W' := by
  have hcm' := hcm
  unfold maxLen at hcm'
  have HT := Lib.hid hT
  clear hT
  by_cases hn : 1048576 < n
  · go_enter Tryd.func6, Tryd.ntmps6
    go_wp2_with fail
    go_ret
    exact ⟨rfl, (by repeat (first | exact Below.refl _ _ | assumption | refine bel_drewN ?_ _ | refine bel_drew ?_ | refine bel_alloc ?_ _ | refine bel_set ?_ (by simp; omega) _ | refine bel_set ?_ (by simp) _ | refine bel_trans ?_ (by assumption)))⟩
  · go_enter Tryd.func6, Tryd.ntmps6
    go_wp2_with fail
    refine (draw_tc _ _ _ _ hnc hcm hb).mono ?_
    rintro e w1 ⟨l, k, s, o, rfl, hx, hb1⟩
    clear hb
    have hx1 := hx.1
    have hx2 := hx.2.1
    have hx3 := hx.2.2.1
    have hx4 := hx.2.2.2.1
    clear hx
    go_wp2_with fail
    refine (impl_tc _ _ _ _ _ (HT.out.bel (bel_alloc hb1 _))).mono ?_
    rintro e w2 ⟨rfl, hb2⟩
    have O2 := (Own.new w1 32 #[.int .i64 s, .int .i64 o]).below hb2
    have L2 := bel_trans (bel_alloc hb1 _) hb2
    have q2 := O2.cell
    have l2 := O2.lt
    clear hb1 hb2
    go_wp2_with fail
    refine (spec_tc _ _ _ _ _).mono ?_
    rintro e w3 ⟨rfl, hb3⟩
    have O3 := O2.below hb3
    have L3 := bel_trans L2 hb3
    have q3 := O3.cell
    have l3 := O3.lt
    clear hb3 L2 q2 l2 O2
    by_cases h0 : TC l k s o < 0
    · go_wp2_with fail
      go_ret
      exact ⟨by simp, L3⟩
    · obtain ⟨hv, hE⟩ := TC_holes (show 0 ≤ TC l k s o by omega)
      have HE := Lib.hid hE
      clear hE
      go_wp2_with fail
      refine (impl_tc _ _ _ _ _ (HT.out.bel L3)).mono ?_
      rintro e w4 ⟨rfl, hb4⟩
      have L4 := bel_trans L3 hb4
      clear hb4 L3
      rw [HE.out]
      go_wp2_with fail
      go_ret
      exact ⟨by simp, L4⟩

set_option maxRecDepth 100000 in
theorem lifted (os : Os) (started : os.Started) (H : Type) (enc : TypeId × Value → H) :
    ReturnsInHanded {} Tryd.checked os 6 .any (fun w args => (Rows.fnTermCountHolesSpec.pre enc Tryd.prog Tryd.f6 [] false w args ∧ laidMetH Tryd.prog laidL w) ∧ sizedMet enc Tryd.prog Tryd.f6 (OpenSpec.ofChange Rows.fnTermCountHolesSpec) false w args)
      (Rows.fnTermCountHolesSpec.post enc Tryd.prog Tryd.f6 false true false false) := by
  refine returnsInHanded_of_change_and (C := Tryd.checked) (X := fun w _ => laidMetH Tryd.prog laidL w) (fun _ _ _ hh h => h.of_heap hh) own started (by kernel_rfl) Tryd.func6
    (ChangeSpec.witness_shaped (enc := enc) (C := Tryd.checked) (os := os) (X := fun w _ => laidMetH Tryd.prog laidL w) false (World.doorLaid Tryd.prog 400 os) #[.slice none 0 0] 8 rfl (World.shaped_of_RefB (by kernel_rfl) (by kernel_rfl)) (by kernel_rfl) (by kernel_rfl) (by kernel_rfl) (door_met os _)) ?_
  intro W base args ds gs before hval0 hW _ _ hL _
  have hval : ∀ (j : Nat) t v, Tryd.f6.params[j]? = some t → args[j]? = some v → Value.okWide Tryd.prog W .any base t v := hval0
  have hW' := hW
  have hlt := hW.lt
  obtain ⟨p, q, hA0, hV, rfl, hfz, hnd⟩ := hW
  have hA : DataW.TrodAll enc Tryd.prog W 0 (fun _ => true) true Tryd.f6.params.toList args.toList ds p := hA0
  rw [Tryd.params6] at hA hval
  obtain ⟨v0, vs0, d0, ds0, p0, q0, hargs, rfl, rfl, h0, r0⟩ := trodAll_cons hA
  obtain ⟨rfl, rfl, rfl⟩ := trodAll_nil r0
  obtain rfl : args = #[v0] := by cases args; simp_all
  obtain ⟨rfl, rfl⟩ := trodVars_none hV
  clear hA0 hval0 hA hfz hnd
  obtain ⟨a0, n0, c0, rfl, hnc0, hcm0, hb0⟩ := open_bytes Tryd.underlying22 Tryd.underlying5 (by kernel_rfl) (hval 0 22 v0 rfl rfl) h0 (fun x hx => hlt x (by simp [hx]))
  exact law_close laidOut (by kernel_rfl) rfl Tryd.underlying4 rfl rfl hW' (walk a0 n0 c0 W hnc0 hcm0 hb0 (tab_of_laid hL))

theorem over : Rows.fnTermCountHolesRow.holds Tryd.pinned (OpenSpec.ofChange Rows.fnTermCountHolesSpec) :=
  OpenClaim.holds_of_wide 6 Tryd.f6 rfl rfl rfl rfl rfl rfl rfl ⟨rfl, rfl, rfl, rfl, rfl⟩ rfl rfl rfl rfl rfl (by kernel_rfl) Tryd.func6 (by kernel_rfl)
    (of_decide_eq_true (by kernel_rfl)) (by unfold Func.isWrapper; first | (rw [if_pos (by decide +kernel)]; kernel_rfl) | (rw [if_neg (by decide +kernel)]; exact ⟨rfl, rfl⟩))
    (fun os started H enc _ => lifted os started H enc)

theorem proved : Rows.FnTermCountHolesCardSaid :=
  Claim7.holds_tied_plain_at .later [] [.data, .data] true (true, "090fae7ccdb994b045bc10e943a26869563d5a0d58386d1d88e68d6085c94748") false
    over (fun _ h => by cases h) (by kernel_rfl) (fun _ h => by cases h) fnTermCountHoles_row_tie rfl ⟨rfl, rfl⟩ (by kernel_rfl) rfl
    (fun f fn hf hfn => by
      obtain rfl : f = 6 := Option.some.inj ((show Tryd.prog.funcNamed "loop.example/atomicspectra/laws.FnTermCountHoles" = some 6 by kernel_rfl).symm.trans hf) |>.symm
      obtain rfl : fn = Tryd.f6 := (Option.some.inj (Tryd.func6.symm.trans hfn)).symm
      exact ⟨by kernel_rfl, fun j t ht => by
        rw [Tryd.params6] at ht
        have hm : t ∈ [22] := by simpa using Array.mem_of_getElem? ht
        have hall : ([22].all fun u => !Tryd.prog.wantsStandIn u) = true := by kernel_rfl
        exact (show Tryd.prog.wantsStandIn t = false by simpa using List.all_eq_true.1 hall t hm)⟩)
    (by kernel_rfl)
end Go.Proofs.YtdfpcbbhapihiaaDoor.fnTermCountHoles
