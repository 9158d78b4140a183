/- Weights are multiplied: the law returns true for all bytes. No condition. -/
import Derived.Test.YtocknafdgeneoaaDrawConfs
import Derived.Test.YtocknafdgeneoaaConfPlain2
namespace Go.Proofs.Ytocknafdgeneoaa.fnConfigWeight
open Go.ChangeShapes Go.WideShapes Go.ChangeAt Go.RowKit Go.Deep Go.Joins
set_option linter.unusedVariables false

set_option maxHeartbeats 2000000 in
theorem walk (a : Option Addr) (n c : Nat) (a1 : Option Addr) (n1 c1 : Nat) (W : World) (hnc : n ≤ c) (hcm : c ≤ maxLen) (hb : Bytes W W.heap.size a n) (hnc1 : n1 ≤ c1) (hcm1 : c1 ≤ maxLen) (hb1 : Bytes W W.heap.size a1 n1) :
    Calls Try.prog 13 #[.slice a n c, .slice a1 n1 c1] W fun e W' => e = .returned (.bool true) ∧ Below W.heap.size W W' := by
  have hcm' := hcm
  have hcm1' := hcm1
  unfold maxLen at hcm' hcm1'
  by_cases hn : 1048576 < n
  · go_enter Try.func13, Try.ntmps13
    go_wp2_with fail
    go_ret
    exact ⟨rfl, (by repeat (first | exact Below.refl _ _ | assumption | refine bel_drewN ?_ _ | refine bel_drew ?_ | refine bel_alloc ?_ _ | refine bel_set ?_ (by simp; omega) _ | refine bel_set ?_ (by simp) _ | refine bel_trans ?_ (by assumption)))⟩
  · by_cases hn1 : 1048576 < n1
    · go_enter Try.func13, Try.ntmps13
      go_wp2_with fail
      go_ret
      exact ⟨rfl, (by repeat (first | exact Below.refl _ _ | assumption | refine bel_drewN ?_ _ | refine bel_drew ?_ | refine bel_alloc ?_ _ | refine bel_set ?_ (by simp; omega) _ | refine bel_set ?_ (by simp) _ | refine bel_trans ?_ (by assumption)))⟩
    · go_enter Try.func13, Try.ntmps13
      go_wp2_with fail
      refine (draw_conf_we _ _ _ _ hnc hcm hb).mono ?_
      rintro e w1 ⟨v, l, rfl, hl, ho, hw1⟩
      clear hb hb1
      go_wp2_with fail
      refine (impl_we _ l _ ho.at_).mono ?_
      rintro e w2 ⟨rfl, hw2⟩
      have L2 := bel_trans hw1 hw2
      have ho2 := ho.below hw2
      clear hw1 hw2 ho
      go_wp2_with fail
      refine (spec_we _ l _ ho2.at_).mono ?_
      rintro e w3 ⟨rfl, hw3⟩
      have L3 := bel_trans L2 hw3
      have ho3 := ho2.below hw3
      clear L2 hw3 ho2
      obtain ⟨E, hE⟩ : ∃ E, weB l = E := ⟨_, rfl⟩
      rw [hE]
      by_cases hneg : E < 0
      · clear hE
        go_wp2_with fail
        go_ret
        exact ⟨rfl, (by repeat (first | exact Below.refl _ _ | assumption | refine bel_drewN ?_ _ | refine bel_drew ?_ | refine bel_alloc ?_ _ | refine bel_set ?_ (by simp; omega) _ | refine bel_set ?_ (by simp) _ | refine bel_trans ?_ (by assumption)))⟩
      · have hw0 : 0 ≤ weB l := by omega
        have hc := weB_cfg hw0
        have hp := cfg_pos hc
        have hsm := weB_small hc hw0
        have hE0 : 0 ≤ E := by omega
        have hE1 : E ≤ 1000000000 := by omega
        have hd4 : decide (E < 0) = false := by simp; omega
        have HOP := Lib.hid (open_we hw0)
        have HW := Lib.hid hw0
        have HC := Lib.hid hc
        have HE := Lib.hid hE
        clear hsm hw0 hc hE
        rcases ho3.free with ⟨_, h0⟩ | ⟨g, cap, cur, hgb, hBg, rfl, hcp, hcm, hcur, hsz⟩
        · omega
        · have hk : n1 % l.length < l.length := Nat.mod_lt _ hp
          have e1 : (n1 : Int).tmod l.length = ((n1 % l.length : Nat) : Int) := rfl
          generalize n1 % l.length = k at *
          unfold maxLen at hcm
          go_wp2_with fail
          refine (impl_open _ l _ ho3.at_ (by omega)).mono ?_
          rintro e w4 ⟨vo, rfl, hoo, hw4⟩
          have L4 := bel_trans L3 hw4
          have ho4 := ho3.below hw4
          clear L3 hw4 ho3 hcur hsz
          have hol : (openL l).length ≤ l.length := by
            unfold openL
            split
            · exact openUp_le l _
            · simp
          obtain ⟨q, hq⟩ : ∃ q, openL l = q := ⟨_, rfl⟩
          rw [hq] at hoo hol
          obtain ⟨Ao, co, hvo, _⟩ := hoo.at_
          by_cases hq0 : q.length = 0
          · have hd5 : (E == 1) = true := by rw [← HE.out, HOP.out.2 (by rw [hq]; exact hq0)]; rfl
            have hd6 : ((q.length : Int) == 0) = true := by rw [beq_iff_eq]; omega
            subst hvo
            clear hq
            go_wp2_with fail
            go_ret
            exact ⟨rfl, L4⟩
          · have hd6 : ((q.length : Int) == 0) = false := by rw [beq_eq_false_iff_ne]; omega
            have hwo : weB q = E := by rw [← hq, HOP.out.1 (by rw [hq]; omega), HE.out]
            have HWO := Lib.hid hwo
            have hk0 : (0 : Int) ≤ k := by omega
            have hk1 : (k : Int) < l.length := by omega
            have hkc : (k : Int) ≤ cap := by omega
            have hk2 : (k : Int) ≤ l.length := by omega
            have hdE : (E == E) = true := by simp
            subst hvo
            clear hq hwo
            by_cases hkz : k = 0
            · have hd0 : ((k : Int) == 0) = true := by simp [hkz]
              have P2 := fun w => run_part w g l.length cap shUnd shSize (k : Int) (by omega) (by omega)
              rw [Int.toNat_natCast] at P2
              clear hkz
              go_wp2_with fail
              have LB := L4
              (refine wp_region_bel (by kernel_rfl) (by kernel_rfl) ?_; (repeat (first | go_big_quiet_skip | (go_big_quiet_want; first | (go_big_quiet_op; go_big_quiet_on) | (unfold Oper.quiet; apply Exists.intro; refine ⟨fun wx hCx => ?_, ?_⟩; (focus (obtain ⟨hcx, hfx⟩ := bcell hCx; go_simp; first | done | exact rfl | exact (impl_wez (hoo.at_.bel hCx) HWO.out).mono (fun _ _ hz => ⟨hz.1, bel_trans hCx hz.2⟩))); simp only [Act.put, List.setIfInBounds_toArray, List.set_cons_zero, List.set_cons_succ]; go_big_quiet_on)))); refine wpQuiet_nil ?_; intro wq hCq)
              go_wp2_with fail
              go_ret
              exact ⟨rfl, (by repeat (first | exact Below.refl _ _ | assumption | refine bel_drewN ?_ _ | refine bel_drew ?_ | refine bel_alloc ?_ _ | refine bel_set ?_ (by simp; omega) _ | refine bel_set ?_ (by simp) _ | refine bel_trans ?_ (by assumption)))⟩
            · have hd0 : ((k : Int) == 0) = false := by simp; omega
              have P2 := fun w => run_part w g l.length cap shUnd shSize (k : Int) (by omega) (by omega)
              rw [Int.toNat_natCast] at P2
              obtain ⟨hps, hx0, hx1, hy0, hy1⟩ := weB_parts HW.out (show 0 < k by omega) hk
              rw [HE.out] at hps
              have hat := ho4.take_at hcp (show k ≤ l.length by omega)
              have had := ho4.drop_at hcp hk
              obtain ⟨x, hx⟩ : ∃ x, weB (l.take k) = x := ⟨_, rfl⟩
              obtain ⟨y, hy⟩ : ∃ y, weB (l.drop k) = y := ⟨_, rfl⟩
              rw [hx] at hps hx0 hx1
              rw [hy] at hps hy0 hy1
              have HPT := Lib.hid hx
              have HPD := Lib.hid hy
              have hm0 : 0 ≤ x * y := Int.mul_nonneg (by omega) (by omega)
              have hm1 : x * y ≤ 1000000000 * 1000000000 := Int.mul_le_mul (by omega) (by omega) (by omega) (by omega)
              have ew : IntKind.i64.wrap (x * y) = x * y := IntWalk.i64_in _ (by omega)
              clear hx hy hdE
              subst hps
              go_wp2_with fail
              have LB := L4
              (refine wp_region_bel (by kernel_rfl) (by kernel_rfl) ?_; (repeat (first | go_big_quiet_skip | (go_big_quiet_want; first | (go_big_quiet_op; go_big_quiet_on) | (unfold Oper.quiet; apply Exists.intro; refine ⟨fun wx hCx => ?_, ?_⟩; (focus (obtain ⟨hcx, hfx⟩ := bcell hCx; go_simp; first | done | exact rfl | (with_reducible exact (impl_wez (hoo.at_.bel hCx) HWO.out).mono (fun _ _ hz => ⟨hz.1, bel_trans hCx hz.2⟩)) | (with_reducible exact (impl_wez (hat.bel hCx) HPT.out).mono (fun _ _ hz => ⟨hz.1, bel_trans hCx hz.2⟩)) | (with_reducible exact (impl_wez (had.bel hCx) HPD.out).mono (fun _ _ hz => ⟨hz.1, bel_trans hCx hz.2⟩)) | exact (impl_wez (hoo.at_.bel hCx) HWO.out).mono (fun _ _ hz => ⟨hz.1, bel_trans hCx hz.2⟩) | exact (impl_wez (hat.bel hCx) HPT.out).mono (fun _ _ hz => ⟨hz.1, bel_trans hCx hz.2⟩) | exact (impl_wez (had.bel hCx) HPD.out).mono (fun _ _ hz => ⟨hz.1, bel_trans hCx hz.2⟩))); simp only [Act.put, List.setIfInBounds_toArray, List.set_cons_zero, List.set_cons_succ]; go_big_quiet_on)))); refine wpQuiet_nil ?_; intro wq hCq)
              go_wp2_with fail
              go_ret
              exact ⟨rfl, (by repeat (first | exact Below.refl _ _ | assumption | refine bel_drewN ?_ _ | refine bel_drew ?_ | refine bel_alloc ?_ _ | refine bel_set ?_ (by simp; omega) _ | refine bel_set ?_ (by simp) _ | refine bel_trans ?_ (by assumption)))⟩

set_option maxRecDepth 100000 in
theorem lifted (os : Os) (started : os.Started) (H : Type) (enc : TypeId × Value → H) :
    ReturnsInHanded {} Try.checked os 13 .any (Rows.fnConfigWeightSpec.pre6 enc Try.prog Try.f13 Rows.fnConfigWeightRow.domain false) (Rows.fnConfigWeightSpec.post enc Try.prog Try.f13 false true false false) := by
  refine returnsInHanded_of_change (C := Try.checked) own started (by kernel_rfl) Try.func13
    (ChangeSpec.witness6 (enc := enc) (C := Try.checked) false ⟨#[], #[.slice none 0 0, .slice none 0 0], []⟩ 8 (by kernel_rfl) (by kernel_rfl) (by kernel_rfl) (by kernel_rfl)) ?_
  intro W base args ds gs before hval0 hW hcnd _
  have hval : ∀ (j : Nat) t v, Try.f13.params[j]? = some t → args[j]? = some v → Value.okWide Try.prog W .any base t v := hval0
  have hW' := hW
  have hlt := hW.lt
  obtain ⟨p, q, hA0, hV, rfl, hfz, hnd⟩ := hW
  have hA : DataW.TrodAll enc Try.prog W 0 (fun _ => true) true Try.f13.params.toList args.toList ds p := hA0
  rw [Try.params13] at hA hval
  obtain ⟨v0, vs0, d0, ds0, p0, q0, hargs, rfl, rfl, h0, r0⟩ := trodAll_cons hA
  obtain ⟨v1, vs1, d1, ds1, p1, q1, rfl, rfl, rfl, h1, r1⟩ := trodAll_cons r0
  obtain ⟨rfl, rfl, rfl⟩ := trodAll_nil r1
  obtain rfl : args = #[v0, v1] := by cases args; simp_all
  obtain ⟨rfl, rfl⟩ := trodVars_none hV
  clear hA0 hval0 hA hfz hnd
  obtain ⟨a0, n0, c0, rfl, hnc0, hcm0, hb0⟩ := open_bytes Try.underlying29 Try.underlying5 (by kernel_rfl) (hval 0 29 v0 rfl rfl) h0 (fun x hx => hlt x (by simp [hx]))
  obtain ⟨a1, n1, c1, rfl, hnc1, hcm1, hb1⟩ := open_bytes Try.underlying29 Try.underlying5 (by kernel_rfl) (hval 1 29 v1 rfl rfl) h1 (fun x hx => hlt x (by simp [hx]))
  exact law_close laidOut (by kernel_rfl) rfl Try.underlying4 rfl rfl hW' (walk a0 n0 c0 a1 n1 c1 W hnc0 hcm0 hb0 hnc1 hcm1 hb1)

theorem over : Rows.fnConfigWeightRow.holds Try.pinned (OpenSpec.ofChange Rows.fnConfigWeightSpec) :=
  OpenClaim.holds_of_wide 13 Try.f13 rfl rfl rfl rfl rfl rfl rfl ⟨rfl, rfl, rfl, rfl, rfl⟩ rfl rfl rfl rfl rfl (by kernel_rfl) Try.func13 (by kernel_rfl)
    (of_decide_eq_true (by kernel_rfl)) (by unfold Func.isWrapper; first | (rw [if_pos (by decide +kernel)]; kernel_rfl) | (rw [if_neg (by decide +kernel)]; exact ⟨rfl, rfl⟩))
    (fun os started H enc _ => lifted os started H enc)

theorem proved : Rows.FnConfigWeightSaid := over
end Go.Proofs.Ytocknafdgeneoaa.fnConfigWeight
