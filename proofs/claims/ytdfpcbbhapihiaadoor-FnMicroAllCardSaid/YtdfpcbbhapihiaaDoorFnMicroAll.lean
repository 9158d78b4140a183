/- The microstates of all sums are all choices: the law returns true for all bytes. No condition. -/
import Derived.Test.YtdfpcbbhapihiaaDoorMicroAt
import Derived.Test.YtdfpcbbhapihiaaDoorDrawMicro
import Derived.Test.YtdfpcbbhapihiaaDoorBinom
import Derived.Test.YtdfpcbbhapihiaaDoorDoorLaw
namespace Go.Proofs.YtdfpcbbhapihiaaDoor.fnMicroAll
open Go.ChangeShapes Go.WideShapes Go.ChangeAt Go.RowKit Go.Deep Go.Joins micro
set_option linter.unusedVariables false

def sumN (f : Nat → Nat) : Nat → Nat
  | 0 => 0
  | k + 1 => sumN f k + f k
theorem sumN_bd {B : Nat} {f : Nat → Nat} (h : ∀ i, f i ≤ B) : ∀ k, sumN f k ≤ B * k := by
  intro k
  induction k with
  | zero => simp [sumN]
  | succ k ih => have := h k; simp only [sumN, Nat.mul_succ]; omega
def cellN (l n : Nat) (j i : Nat) : Nat := TN l n ((j : Int) - 8) ((i : Int) - 6)
def rowN (l n : Nat) (j : Nat) : Nat := sumN (cellN l n j) 13
theorem cellN_bd (l n j i : Nat) : cellN l n j i ≤ 1024 := TN_bd _ _ _ _
theorem rowN_bd (l n j : Nat) : rowN l n j ≤ 1024 * 13 := sumN_bd (cellN_bd l n j) 13
theorem chk : ((List.range 3).all fun l => (List.range (4 * l + 3)).all fun n => sumN (rowN l n) 17 == bin (4 * l + 2) n) = true := by decide +kernel
theorem all_at {l n : Nat} (hl : l ≤ 2) (hn : n ≤ 4 * l + 2) : sumN (rowN l n) 17 = bin (4 * l + 2) n := by
  have h := List.all_eq_true.1 chk l (by simp; omega)
  have h := List.all_eq_true.1 h n (by simp; omega)
  simpa using h

set_option maxHeartbeats 4000000 in
set_option maxRecDepth 100000 in
theorem walk (a : Option Addr) (n c : Nat) (W : World) (hnc : n ≤ c) (hcm : c ≤ maxLen) (hb : Bytes W W.heap.size a n) (hT : Tab W) :
    Calls Tryd.prog 4 #[.slice a n c] W fun e W' => e = .returned (.bool true) ∧ Below W.heap.size W W' := by
  have hcm' := hcm
  unfold maxLen at hcm'
  have HT := Lib.hid hT
  clear hT
  by_cases hn : 1048576 < n
  · go_enter Tryd.func4, Tryd.ntmps4
    go_wp2_with fail
    go_ret
    exact ⟨rfl, (by repeat (first | exact Below.refl _ _ | assumption | refine bel_drewN ?_ _ | refine bel_drew ?_ | refine bel_alloc ?_ _ | refine bel_set ?_ (by simp; omega) _ | refine bel_set ?_ (by simp) _ | refine bel_trans ?_ (by assumption)))⟩
  · go_enter Tryd.func4, Tryd.ntmps4
    go_wp2_with fail
    refine (draw_mc _ _ _ _ hnc hcm hb).mono ?_
    rintro e w1 ⟨l, k, o, s, rfl, hx, hb1⟩
    obtain ⟨x1, x2, x3, x4, x5, x6, x7, x8⟩ := hx
    clear hb
    go_wp2_with fail
    refine (impl_mc _ _ _ _ _ (HT.out.bel hb1)).mono ?_
    rintro e w2 ⟨rfl, hb2⟩
    have L2 := bel_trans hb1 hb2
    have HT2 := Lib.hid (HT.out.bel L2)
    clear hb1 hb2
    go_wp2_with fail
    refine (spec_mc _ _ _ _ _).mono ?_
    rintro e w' ⟨rfl, rfl⟩
    cases hv : evB l k
    · have hM : MC l k o s = -1 := by simp [MC, hv]
      rw [hM]
      clear hM hv
      go_wp2_with fail
      go_ret
      exact ⟨rfl, L2⟩
    · have hvv := evB_true.1 hv
      obtain ⟨m, rfl⟩ := Int.eq_ofNat_of_zero_le hvv.1
      obtain ⟨q, rfl⟩ := Int.eq_ofNat_of_zero_le hvv.2.2.1
      have hm : m ≤ 2 := by omega
      have hq : q ≤ 4 * m + 2 := by omega
      have hM := MC_at hm (show 0 ≤ (q : Int) by omega) (by omega) o s
      rw [Int.toNat_natCast] at hM
      have hqi : (q : Int) ≤ 4 * m + 2 := by omega
      have hmi : (m : Int) ≤ 2 := by omega
      clear hv hvv x1 x2 x3 x4
      obtain ⟨E, hE⟩ : ∃ E, TN m q o s = E := ⟨_, rfl⟩
      have hEb := TN_bd m q o s
      rw [hM, hE]
      rw [hE] at hEb
      have hd : decide ((E : Int) < 0) = false := by rw [decide_eq_false_iff_not]; omega
      have HMC := Lib.hid (fun x z => MC_at hm (show (0 : Int) ≤ q by omega) (by omega) x z)
      have HS := Lib.hid (all_at hm hq)
      have HCH := Lib.hid (fun w => impl_ch (4 * m + 2) q (by omega) hq w)
      clear hM hE
      go_wp2_with fail
      go_loopg [9, 10] 17 (fun gk t i wr => ∃ j S : Nat, gk = 17 - j ∧ j ≤ 17 ∧ i = .int .i64 ((j : Int) - 8) ∧ Hid (sumN (rowN m q) j = S) ∧ t = .int .i64 (S : Int) ∧ Below W.heap.size W wr)
      case atStart => exact ⟨0, 0, rfl, by omega, rfl, Lib.hid rfl, rfl, L2⟩
      case round =>
        clear L2 HT2
        obtain ⟨j, S, rfl, hj, rfl, HSj, rfl, L2⟩ := hrel
        have hSb : S ≤ 1024 * 13 * 17 := by
          have := sumN_bd (rowN_bd m q) j
          rw [HSj.out] at this
          exact Nat.le_trans this (Nat.mul_le_mul (Nat.le_refl _) hj)
        by_cases hlt : j < 17
        · have dj : decide ((j : Int) - 8 ≤ 8) = true := by simp; omega
          have dj2 : decide ((j : Int) ≤ 16) = true := by simp; omega
          go_wp2_with fail
          go_loopg [9, 11] 13 (fun gk t i wr => ∃ k R : Nat, gk = 13 - k ∧ k ≤ 13 ∧ i = .int .i64 ((k : Int) - 6) ∧ Hid (S + sumN (cellN m q j) k = R) ∧ t = .int .i64 (R : Int) ∧ Below W.heap.size W wr)
          case atStart => exact ⟨0, S, rfl, by omega, rfl, Lib.hid rfl, rfl, L2⟩
          case round =>
            clear L2
            obtain ⟨k, R, rfl, hk, rfl, HR, rfl, L2⟩ := hrel
            have hRb : R ≤ 1024 * 13 * 17 + 1024 * 13 := by
              have := sumN_bd (cellN_bd m q j) k
              have h2 := HR.out
              have h3 : 1024 * k ≤ 1024 * 13 := Nat.mul_le_mul (Nat.le_refl _) hk
              omega
            by_cases hlk : k < 13
            · have dk : decide ((k : Int) - 6 ≤ 6) = true := by simp; omega
              have dk2 : decide ((k : Int) ≤ 12) = true := by simp; omega
              have e1 := HMC.out ((j : Int) - 8) ((k : Int) - 6)
              rw [Int.toNat_natCast] at e1
              obtain ⟨x, hx⟩ : ∃ x, cellN m q j k = x := ⟨_, rfl⟩
              have hxb : x ≤ 1024 := hx ▸ cellN_bd m q j k
              have hsn : S + sumN (cellN m q j) (k + 1) = R + x := by rw [← HR.out, ← hx]; simp only [sumN]; omega
              rw [show TN m q ((j : Int) - 8) ((k : Int) - 6) = x from hx] at e1
              have E1 := Lib.hid e1
              have HSN := Lib.hid hsn
              clear e1 hsn hx
              go_wp2_with fail
              refine (impl_mcz E1.out (HT.out.bel L2)).mono ?_
              rintro e wa ⟨rfl, hca⟩
              have L3 := bel_trans L2 hca
              clear hca L2
              go_wp2_with fail
              go_roundg (13 - (k + 1))
              case measure => omega
              case rel => exact ⟨k + 1, R + x, rfl, by omega, by go_num, HSN, by go_num, L3⟩
            · have hk13 : k = 13 := by omega
              have dk : decide ((k : Int) - 6 ≤ 6) = false := by simp; omega
              have dk2 : decide ((k : Int) ≤ 12) = false := by simp; omega
              have HSN := Lib.hid (show sumN (rowN m q) (j + 1) = R by
                rw [← HR.out, hk13]
                show sumN (rowN m q) j + rowN m q j = _
                rw [HSj.out]; rfl)
              clear hk13
              go_wp2_with fail
              go_roundg (17 - (j + 1))
              case measure => omega
              case rel => exact ⟨j + 1, R, rfl, by omega, by go_num, HSN, rfl, L2⟩
        · have hj17 : j = 17 := by omega
          have dj : decide ((j : Int) - 8 ≤ 8) = false := by simp; omega
          have dj2 : decide ((j : Int) ≤ 16) = false := by simp; omega
          have hz : ((S : Int) == (bin (4 * m + 2) q : Int)) = true := by
            have h1 := HSj.out
            rw [hj17, HS.out] at h1
            rw [h1]; simp
          have HZ := Lib.hid hz
          clear hj17 hz
          go_wp2_with fail
          have hc := HCH.out wr
          rw [show (((4 * m + 2 : Nat) : Int)) = 4 * (m : Int) + 2 by omega] at hc
          refine hc.mono ?_
          rintro e wz ⟨rfl, hbz⟩
          have L3 := bel_trans L2 hbz
          clear hc hbz L2
          have hz := HZ.out
          generalize bin (4 * m + 2) q = Z at *
          go_wp2_with fail
          go_ret
          exact ⟨rfl, L3⟩

set_option maxRecDepth 100000 in
theorem lifted (os : Os) (started : os.Started) (H : Type) (enc : TypeId × Value → H) :
    ReturnsInHanded {} Tryd.checked os 4 .any (fun w args => (Rows.fnMicroAllSpec.pre enc Tryd.prog Tryd.f4 [] false w args ∧ laidMetH Tryd.prog laidL w) ∧ sizedMet enc Tryd.prog Tryd.f4 (OpenSpec.ofChange Rows.fnMicroAllSpec) false w args)
      (Rows.fnMicroAllSpec.post enc Tryd.prog Tryd.f4 false true false false) := by
  refine returnsInHanded_of_change_and (C := Tryd.checked) (X := fun w _ => laidMetH Tryd.prog laidL w) (fun _ _ _ hh h => h.of_heap hh) own started (by kernel_rfl) Tryd.func4
    (ChangeSpec.witness_shaped (enc := enc) (C := Tryd.checked) (os := os) (X := fun w _ => laidMetH Tryd.prog laidL w) false (World.doorLaid Tryd.prog 400 os) #[.slice none 0 0] 8 rfl (World.shaped_of_RefB (by kernel_rfl) (by kernel_rfl)) (by kernel_rfl) (by kernel_rfl) (by kernel_rfl) (door_met os _)) ?_
  intro W base args ds gs before hval0 hW _ _ hL _
  have hval : ∀ (j : Nat) t v, Tryd.f4.params[j]? = some t → args[j]? = some v → Value.okWide Tryd.prog W .any base t v := hval0
  have hW' := hW
  have hlt := hW.lt
  obtain ⟨p, q, hA0, hV, rfl, hfz, hnd⟩ := hW
  have hA : DataW.TrodAll enc Tryd.prog W 0 (fun _ => true) true Tryd.f4.params.toList args.toList ds p := hA0
  rw [Tryd.params4] at hA hval
  obtain ⟨v0, vs0, d0, ds0, p0, q0, hargs, rfl, rfl, h0, r0⟩ := trodAll_cons hA
  obtain ⟨rfl, rfl, rfl⟩ := trodAll_nil r0
  obtain rfl : args = #[v0] := by cases args; simp_all
  obtain ⟨rfl, rfl⟩ := trodVars_none hV
  clear hA0 hval0 hA hfz hnd
  obtain ⟨a0, n0, c0, rfl, hnc0, hcm0, hb0⟩ := open_bytes Tryd.underlying22 Tryd.underlying5 (by kernel_rfl) (hval 0 22 v0 rfl rfl) h0 (fun x hx => hlt x (by simp [hx]))
  exact law_close laidOut (by kernel_rfl) rfl Tryd.underlying4 rfl rfl hW' (walk a0 n0 c0 W hnc0 hcm0 hb0 (tab_of_laid hL))

theorem over : Rows.fnMicroAllRow.holds Tryd.pinned (OpenSpec.ofChange Rows.fnMicroAllSpec) :=
  OpenClaim.holds_of_wide 4 Tryd.f4 rfl rfl rfl rfl rfl rfl rfl ⟨rfl, rfl, rfl, rfl, rfl⟩ rfl rfl rfl rfl rfl (by kernel_rfl) Tryd.func4 (by kernel_rfl)
    (of_decide_eq_true (by kernel_rfl)) (by unfold Func.isWrapper; first | (rw [if_pos (by decide +kernel)]; kernel_rfl) | (rw [if_neg (by decide +kernel)]; exact ⟨rfl, rfl⟩))
    (fun os started H enc _ => lifted os started H enc)

theorem proved : Rows.FnMicroAllCardSaid :=
  Claim7.holds_tied_plain_at .later [] [.data, .data] true (true, "090fae7ccdb994b045bc10e943a26869563d5a0d58386d1d88e68d6085c94748") false
    over (fun _ h => by cases h) (by kernel_rfl) (fun _ h => by cases h) fnMicroAll_row_tie rfl ⟨rfl, rfl⟩ (by kernel_rfl) rfl
    (fun f fn hf hfn => by
      obtain rfl : f = 4 := Option.some.inj ((show Tryd.prog.funcNamed "loop.example/atomicspectra/laws.FnMicroAll" = some 4 by kernel_rfl).symm.trans hf) |>.symm
      obtain rfl : fn = Tryd.f4 := (Option.some.inj (Tryd.func4.symm.trans hfn)).symm
      exact ⟨by kernel_rfl, fun j t ht => by
        rw [Tryd.params4] at ht
        have hm : t ∈ [22] := by simpa using Array.mem_of_getElem? ht
        have hall : ([22].all fun u => !Tryd.prog.wantsStandIn u) = true := by kernel_rfl
        exact (show Tryd.prog.wantsStandIn t = false by simpa using List.all_eq_true.1 hall t hm)⟩)
    (by kernel_rfl)
end Go.Proofs.YtdfpcbbhapihiaaDoor.fnMicroAll
