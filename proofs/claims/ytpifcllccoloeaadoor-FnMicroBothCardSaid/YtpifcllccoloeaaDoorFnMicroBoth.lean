/- Both spins are chosen alone: the law returns true for all bytes. No condition. -/
import Derived.Test.YtpifcllccoloeaaDoorMicroAt
import Derived.Test.YtpifcllccoloeaaDoorDrawMicro
import Derived.Test.YtpifcllccoloeaaDoorDoorLaw
namespace Go.Proofs.YtpifcllccoloeaaDoor.fnMicroBoth
open Go.ChangeShapes Go.WideShapes Go.ChangeAt Go.RowKit Go.Deep Go.Joins micro
set_option linter.unusedVariables false

def sumN (f : Nat → Nat) : Nat → Nat
  | 0 => 0
  | k + 1 => sumN f k + f k
theorem sumN_bd {f : Nat → Nat} (h : ∀ i, f i ≤ 1048576) : ∀ k, sumN f k ≤ 1048576 * k := by
  intro k
  induction k with
  | zero => simp [sumN]
  | succ k ih => have := h k; simp only [sumN]; omega
def part (l u d : Nat) (o : Int) (i : Nat) : Nat := TN l u ((i : Int) - 8) u * TN l d (o - ((i : Int) - 8)) d
theorem part_bd (l u d : Nat) (o : Int) (i : Nat) : part l u d o i ≤ 1048576 := Nat.mul_le_mul (TN_bd _ _ _ _) (TN_bd _ _ _ _)
def prop (l n : Nat) (o s : Int) : Bool :=
  if ((n : Int) + s) % 2 ≠ 0 ∨ (n : Int) + s < 0 ∨ (n : Int) - s < 0 then TN l n o s == 0
  else if 2 * (l : Int) + 1 < ((n : Int) + s) / 2 ∨ 2 * (l : Int) + 1 < ((n : Int) - s) / 2 then TN l n o s == 0
  else sumN (part l (((n : Int) + s) / 2).toNat (((n : Int) - s) / 2).toNat o) 17 == TN l n o s
theorem chk : tryAll prop = true := by decide +kernel

set_option maxHeartbeats 4000000 in
set_option maxRecDepth 100000 in
theorem walk (a : Option Addr) (n c : Nat) (W : World) (hnc : n ≤ c) (hcm : c ≤ maxLen) (hb : Bytes W W.heap.size a n) (hT : Tab W) :
    Calls Tryd.prog 7 #[.slice a n c] W fun e W' => e = .returned (.bool true) ∧ Below W.heap.size W W' := by
  have hcm' := hcm
  unfold maxLen at hcm'
  have HT := Lib.hid hT
  clear hT
  by_cases hn : 1048576 < n
  · go_enter Tryd.func7, Tryd.ntmps7
    go_wp2_with fail
    go_ret
    exact ⟨rfl, (by repeat (first | exact Below.refl _ _ | assumption | refine bel_drewN ?_ _ | refine bel_drew ?_ | refine bel_alloc ?_ _ | refine bel_set ?_ (by simp; omega) _ | refine bel_set ?_ (by simp) _ | refine bel_trans ?_ (by assumption)))⟩
  · go_enter Tryd.func7, Tryd.ntmps7
    go_wp2_with fail
    refine (draw_mc _ _ _ _ hnc hcm hb).mono ?_
    rintro e w1 ⟨l, k, o, s, rfl, hx, hb1⟩
    obtain ⟨x1, x2, x3, x4, x5, x6, x7, x8⟩ := hx
    clear hb
    go_wp2_with fail
    refine (impl_mc _ _ _ _ _ (HT.out.bel hb1)).mono ?_
    rintro e w2 ⟨rfl, hb2⟩
    have L2 := bel_trans hb1 hb2
    have HT2 := Lib.hid (HT.out.bel L2)
    clear hb1 hb2
    go_wp2_with fail
    refine (spec_mc _ _ _ _ _).mono ?_
    rintro e w' ⟨rfl, rfl⟩
    cases hv : evB l k
    · have hM : MC l k o s = -1 := by simp [MC, hv]
      rw [hM]
      clear hM hv
      go_wp2_with fail
      go_ret
      exact ⟨rfl, L2⟩
    · have hvv := evB_true.1 hv
      obtain ⟨m, rfl⟩ := Int.eq_ofNat_of_zero_le hvv.1
      obtain ⟨q, rfl⟩ := Int.eq_ofNat_of_zero_le hvv.2.2.1
      have hm : m ≤ 2 := by omega
      have hq : q ≤ 4 * m + 2 := by omega
      have hM := MC_at hm (show 0 ≤ (q : Int) by omega) (by omega) o s
      rw [Int.toNat_natCast] at hM
      have hp := tryAll_at chk hm hq ⟨x5, x6⟩ ⟨x7, x8⟩
      have hqi : (q : Int) ≤ 4 * m + 2 := by omega
      have hmi : (m : Int) ≤ 2 := by omega
      clear hv hvv x1 x2 x3 x4

      obtain ⟨E, hE⟩ : ∃ E, TN m q o s = E := ⟨_, rfl⟩
      have hEb := TN_bd m q o s
      rw [hM, hE]
      rw [hE] at hEb
      have hd : decide ((E : Int) < 0) = false := by rw [decide_eq_false_iff_not]; omega
      unfold prop at hp
      rw [hE] at hp
      obtain ⟨u, eu⟩ : ∃ u, ((q : Int) + s).tdiv 2 = u := ⟨_, rfl⟩
      obtain ⟨d, ed⟩ : ∃ d, ((q : Int) - s).tdiv 2 = d := ⟨_, rfl⟩
      obtain ⟨r, er⟩ : ∃ r, ((q : Int) + s).tmod 2 = r := ⟨_, rfl⟩
      have fu : (0 ≤ (q : Int) + s → u = ((q : Int) + s) / 2) ∧ ((q : Int) + s < 0 → r = 0 → u < 0) := by
        constructor
        · intro h; rw [← eu, Int.tdiv_eq_ediv_of_nonneg h]
        · intro h h2; have := Int.tmod_add_mul_tdiv ((q : Int) + s) 2; rw [er, eu] at this; omega
      have fd : (0 ≤ (q : Int) - s → d = ((q : Int) - s) / 2) ∧ ((q : Int) - s < 0 → r = 0 → d < 0) := by
        constructor
        · intro h; rw [← ed, Int.tdiv_eq_ediv_of_nonneg h]
        · intro h h2
          have h3 := Int.tmod_add_mul_tdiv ((q : Int) + s) 2
          have h4 := Int.tmod_add_mul_tdiv ((q : Int) - s) 2
          rw [er, eu] at h3
          rw [ed] at h4
          have h5 := Int.tmod_lt_of_pos ((q : Int) - s) (show (0 : Int) < 2 by omega)
          have h6 : -2 < ((q : Int) - s).tmod 2 := Int.lt_tmod_of_pos _ (by omega)
          omega
      have fr : r = 0 ↔ ((q : Int) + s) % 2 = 0 := by
        have h3 := Int.tmod_add_mul_tdiv ((q : Int) + s) 2
        rw [er, eu] at h3
        have h5 : r < 2 := by rw [← er]; exact Int.tmod_lt_of_pos _ (by omega)
        have h6 : -2 < r := by rw [← er]; exact Int.lt_tmod_of_pos _ (by omega)
        omega
      have hub : -20 ≤ u ∧ u ≤ 20 := by
        have h3 := Int.tmod_add_mul_tdiv ((q : Int) + s) 2
        rw [er, eu] at h3
        have h5 : r < 2 := by rw [← er]; exact Int.tmod_lt_of_pos _ (by omega)
        have h6 : -2 < r := by rw [← er]; exact Int.lt_tmod_of_pos _ (by omega)
        omega
      have hdb : -20 ≤ d ∧ d ≤ 20 := by
        have h4 := Int.tmod_add_mul_tdiv ((q : Int) - s) 2
        rw [ed] at h4
        have h5 := Int.tmod_lt_of_pos ((q : Int) - s) (show (0 : Int) < 2 by omega)
        have h6 : -2 < ((q : Int) - s).tmod 2 := Int.lt_tmod_of_pos _ (by omega)
        omega
      obtain ⟨hub0, hub1⟩ := hub
      obtain ⟨hdb0, hdb1⟩ := hdb
      have HP := Lib.hid hp
      have FU := Lib.hid fu
      have FD := Lib.hid fd
      have FR := Lib.hid fr
      clear hp fu fd fr hE
      by_cases c1 : r = 0
      · have d1 : (r != 0) = false := by simp [c1]
        have C1 := Lib.hid c1
        clear c1
        by_cases c2 : (q : Int) + s < 0
        · have h0 : E = 0 := by have := HP.out; rw [if_pos (by omega)] at this; simpa using this
          have d2 : decide (u < 0) = true := by have := FU.out.2 c2 C1.out; simp; omega
          subst h0
          clear c2
          go_wp2_with fail
          go_ret
          exact ⟨by simp, L2⟩
        · have hu := FU.out.1 (by omega)
          have d2 : decide (u < 0) = false := by simp; omega
          by_cases c3 : (q : Int) - s < 0
          · have h0 : E = 0 := by have := HP.out; rw [if_pos (by omega)] at this; simpa using this
            have d3 : decide (d < 0) = true := by have := FD.out.2 c3 C1.out; simp; omega
            subst h0
            clear c2 c3 hu
            go_wp2_with fail
            go_ret
            exact ⟨by simp, L2⟩
          · have hdd := FD.out.1 (by omega)
            have d3 : decide (d < 0) = false := by simp; omega
            have d4 : decide ((q : Int) + s < 0) = false := by simp; omega
            have d5 : decide ((q : Int) - s < 0) = false := by simp; omega
            have hp := HP.out
            rw [if_neg (by have := FR.out.1 C1.out; omega), ← hu, ← hdd] at hp
            have hu0 : 0 ≤ u := by omega
            have hd0 : 0 ≤ d := by omega
            have HU := Lib.hid hu
            have HD := Lib.hid hdd
            have C2 := Lib.hid c2
            have C3 := Lib.hid c3
            clear hu hdd c2 c3
            by_cases c4 : 2 * (m : Int) + 1 < u
            · have h0 : E = 0 := by rw [if_pos (by omega)] at hp; simpa using hp
              have d6 : decide (2 * (m : Int) + 1 < u) = true := by simpa using c4
              subst h0
              clear hp c4
              go_wp2_with fail
              go_ret
              exact ⟨by simp, L2⟩
            · have d6 : decide (2 * (m : Int) + 1 < u) = false := by simpa using c4
              by_cases c5 : 2 * (m : Int) + 1 < d
              · have h0 : E = 0 := by rw [if_pos (by omega)] at hp; simpa using hp
                have d7 : decide (2 * (m : Int) + 1 < d) = true := by simpa using c5
                subst h0
                clear hp c4 c5
                go_wp2_with fail
                go_ret
                exact ⟨by simp, L2⟩
              · have d7 : decide (2 * (m : Int) + 1 < d) = false := by simpa using c5
                rw [if_neg (by omega)] at hp
                have hu5 : u ≤ 5 := by omega
                have hd5 : d ≤ 5 := by omega
                have hmu := fun x => MC_at hm hu0 (by omega) x u
                have hmd := fun x => MC_at hm hd0 (by omega) x d
                obtain ⟨U, hU⟩ := Int.eq_ofNat_of_zero_le hu0
                obtain ⟨D, hD⟩ := Int.eq_ofNat_of_zero_le hd0
                rw [hU] at hmu hp
                rw [hD] at hmd hp
                rw [Int.toNat_natCast] at hmu hmd
                rw [Int.toNat_natCast, Int.toNat_natCast] at hp
                have hs17 : sumN (part m U D o) 17 = E := by simpa using hp
                have HS := Lib.hid hs17
                have HMU := Lib.hid hmu
                have HMD := Lib.hid hmd
                have HSB := Lib.hid (sumN_bd (part_bd m U D o))
                have HU := Lib.hid hU
                have HD := Lib.hid hD
                clear hp hs17 hmu hmd hU hD c4 c5
                go_wp2_with fail
                go_loopg [11, 12] 17 (fun gk t i wr => ∃ j : Nat, gk = 17 - j ∧ j ≤ 17 ∧ i = .int .i64 ((j : Int) - 8) ∧ t = .int .i64 (sumN (part m U D o) j) ∧ Below W.heap.size W wr)
                case atStart => exact ⟨0, rfl, by omega, rfl, rfl, L2⟩
                case round =>
                  clear L2 HT2
                  obtain ⟨j, rfl, hj, rfl, rfl, L2⟩ := hrel
                  by_cases hlt : j < 17
                  · have dj : decide ((j : Int) - 8 ≤ 8) = true := by simp; omega
                    have dj2 : decide ((j : Int) ≤ 16) = true := by simp; omega
                    have hb := HSB.out j
                    have hsn : sumN (part m U D o) (j + 1) = sumN (part m U D o) j + part m U D o j := rfl
                    have e1 := HMU.out ((j : Int) - 8)
                    have e2 := HMD.out (o - ((j : Int) - 8))
                    rw [← HU.out] at e1
                    rw [← HD.out] at e2
                    have b1 := TN_bd m U ((j : Int) - 8) U
                    have b2 := TN_bd m D (o - ((j : Int) - 8)) D
                    have hpt : part m U D o j = TN m U ((j : Int) - 8) U * TN m D (o - ((j : Int) - 8)) D := rfl
                    rw [hpt] at hsn
                    rw [HU.out] at e1
                    rw [HD.out] at e2
                    generalize sumN (part m U D o) j = z at *
                    generalize TN m U ((j : Int) - 8) U = x at *
                    generalize TN m D (o - ((j : Int) - 8)) D = y at *
                    have hxy : x * y ≤ 1024 * 1024 := Nat.mul_le_mul b1 b2
                    have hxi : (x : Int) * y = ((x * y : Nat) : Int) := by simp
                    have ew : IntKind.i64.wrap ((x : Int) * y) = (x : Int) * y := IntWalk.i64_in _ (by omega)
                    have hz1 : (z : Int) + (x : Int) * y ≤ 2000000000 := by omega
                    have hz0 : 0 ≤ (x : Int) * y := by omega
                    have hz2 : (x : Int) * y ≤ 2000000 := by omega
                    have hz3 : (z : Int) ≤ 20000000 := by omega
                    have HSN := Lib.hid hsn
                    have E1 := Lib.hid (show MC m u ((j : Int) - 8) u = x by rw [HU.out]; exact e1)
                    have E2 := Lib.hid (show MC m d (o - ((j : Int) - 8)) d = y by rw [HD.out]; exact e2)
                    clear hsn e1 e2 hpt hxy hxi hb
                    go_wp2_with fail
                    refine (impl_mcz E1.out (HT.out.bel L2)).mono ?_
                    rintro e wa ⟨rfl, hca⟩
                    have L3 := bel_trans L2 hca
                    clear hca L2
                    go_wp2_with fail
                    refine (impl_mcz E2.out (HT.out.bel L3)).mono ?_
                    rintro e wb ⟨rfl, hcb⟩
                    have L4 := bel_trans L3 hcb
                    clear hcb L3
                    go_wp2_with fail
                    go_roundg (17 - (j + 1))
                    case measure => omega
                    case rel => exact ⟨j + 1, rfl, by omega, by go_num, by rw [HSN.out]; simp, L4⟩
                  · have hj17 : j = 17 := by omega
                    have dj : decide ((j : Int) - 8 ≤ 8) = false := by simp; omega
                    have dj2 : decide ((j : Int) ≤ 16) = false := by simp; omega
                    have hz : ((sumN (part m U D o) j : Int) == E) = true := by rw [hj17, HS.out]; simp
                    clear hj17
                    go_wp2_with fail
                    go_ret
                    exact ⟨by simp, L2⟩
      · have h0 : E = 0 := by
          have := HP.out
          rw [if_pos (.inl (fun h => c1 (FR.out.2 h)))] at this
          simpa using this
        have d1 : (r != 0) = true := by simp [c1]
        subst h0
        clear c1
        go_wp2_with fail
        go_ret
        exact ⟨by simp, L2⟩

set_option maxRecDepth 100000 in
theorem lifted (os : Os) (started : os.Started) (H : Type) (enc : TypeId × Value → H) :
    ReturnsInHanded {} Tryd.checked os 7 .any (fun w args => (Rows.fnMicroBothSpec.pre enc Tryd.prog Tryd.f7 [] false w args ∧ laidMetH Tryd.prog laidL w) ∧ sizedMet enc Tryd.prog Tryd.f7 (OpenSpec.ofChange Rows.fnMicroBothSpec) false w args)
      (Rows.fnMicroBothSpec.post enc Tryd.prog Tryd.f7 false true false false) := by
  refine returnsInHanded_of_change_and (C := Tryd.checked) (X := fun w _ => laidMetH Tryd.prog laidL w) (fun _ _ _ hh h => h.of_heap hh) own started (by kernel_rfl) Tryd.func7
    (ChangeSpec.witness_shaped (enc := enc) (C := Tryd.checked) (os := os) (X := fun w _ => laidMetH Tryd.prog laidL w) false (World.doorLaid Tryd.prog 400 os) #[.slice none 0 0] 8 rfl (World.shaped_of_RefB (by kernel_rfl) (by kernel_rfl)) (by kernel_rfl) (by kernel_rfl) (by kernel_rfl) (door_met os _)) ?_
  intro W base args ds gs before hval0 hW _ _ hL _
  have hval : ∀ (j : Nat) t v, Tryd.f7.params[j]? = some t → args[j]? = some v → Value.okWide Tryd.prog W .any base t v := hval0
  have hW' := hW
  have hlt := hW.lt
  obtain ⟨p, q, hA0, hV, rfl, hfz, hnd⟩ := hW
  have hA : DataW.TrodAll enc Tryd.prog W 0 (fun _ => true) true Tryd.f7.params.toList args.toList ds p := hA0
  rw [Tryd.params7] at hA hval
  obtain ⟨v0, vs0, d0, ds0, p0, q0, hargs, rfl, rfl, h0, r0⟩ := trodAll_cons hA
  obtain ⟨rfl, rfl, rfl⟩ := trodAll_nil r0
  obtain rfl : args = #[v0] := by cases args; simp_all
  obtain ⟨rfl, rfl⟩ := trodVars_none hV
  clear hA0 hval0 hA hfz hnd
  obtain ⟨a0, n0, c0, rfl, hnc0, hcm0, hb0⟩ := open_bytes Tryd.underlying32 Tryd.underlying5 (by kernel_rfl) (hval 0 32 v0 rfl rfl) h0 (fun x hx => hlt x (by simp [hx]))
  exact law_close laidOut (by kernel_rfl) rfl Tryd.underlying4 rfl rfl hW' (walk a0 n0 c0 W hnc0 hcm0 hb0 (tab_of_laid hL))

theorem over : Rows.fnMicroBothRow.holds Tryd.pinned (OpenSpec.ofChange Rows.fnMicroBothSpec) :=
  OpenClaim.holds_of_wide 7 Tryd.f7 rfl rfl rfl rfl rfl rfl rfl ⟨rfl, rfl, rfl, rfl, rfl⟩ rfl rfl rfl rfl rfl (by kernel_rfl) Tryd.func7 (by kernel_rfl)
    (of_decide_eq_true (by kernel_rfl)) (by unfold Func.isWrapper; first | (rw [if_pos (by decide +kernel)]; kernel_rfl) | (rw [if_neg (by decide +kernel)]; exact ⟨rfl, rfl⟩))
    (fun os started H enc _ => lifted os started H enc)

theorem proved : Rows.FnMicroBothCardSaid :=
  Claim7.holds_tied_plain_at .later [] [.data, .data] true (true, "421f60f55b9635ae4c29fb2caa55aab8030e4a1addd88a1e13af11e3349b34a5") false
    over (fun _ h => by cases h) (by kernel_rfl) (fun _ h => by cases h) fnMicroBoth_row_tie rfl ⟨rfl, rfl⟩ (by kernel_rfl) rfl
    (fun f fn hf hfn => by
      obtain rfl : f = 7 := Option.some.inj ((show Tryd.prog.funcNamed "loop.example/atomicspectra/laws.FnMicroBoth" = some 7 by kernel_rfl).symm.trans hf) |>.symm
      obtain rfl : fn = Tryd.f7 := (Option.some.inj (Tryd.func7.symm.trans hfn)).symm
      exact ⟨by kernel_rfl, fun j t ht => by
        rw [Tryd.params7] at ht
        have hm : t ∈ [32] := by simpa using Array.mem_of_getElem? ht
        have hall : ([32].all fun u => !Tryd.prog.wantsStandIn u) = true := by kernel_rfl
        exact (show Tryd.prog.wantsStandIn t = false by simpa using List.all_eq_true.1 hall t hm)⟩)
    (by kernel_rfl)
end Go.Proofs.YtpifcllccoloeaaDoor.fnMicroBoth
