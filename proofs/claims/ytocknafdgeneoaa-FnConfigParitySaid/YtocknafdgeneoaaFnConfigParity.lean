/- Parity is counted shell by shell: the law returns true for all bytes. No condition. -/
import Derived.Test.YtocknafdgeneoaaDrawConfPar
import Derived.Test.YtocknafdgeneoaaConfPlain
namespace Go.Proofs.Ytocknafdgeneoaa.fnConfigParity
open Go.ChangeShapes Go.WideShapes Go.ChangeAt Go.RowKit Go.Deep Go.Joins
set_option linter.unusedVariables false

set_option maxHeartbeats 2000000 in
theorem walk (a : Option Addr) (n c : Nat) (a1 : Option Addr) (n1 c1 : Nat) (W : World) (hnc : n ≤ c) (hcm : c ≤ maxLen) (hb : Bytes W W.heap.size a n) (hnc1 : n1 ≤ c1) (hcm1 : c1 ≤ maxLen) (hb1 : Bytes W W.heap.size a1 n1) :
    Calls Try.prog 8 #[.slice a n c, .slice a1 n1 c1] W fun e W' => e = .returned (.bool true) ∧ Below W.heap.size W W' := by
  have hcm' := hcm
  have hcm1' := hcm1
  unfold maxLen at hcm' hcm1'
  by_cases hn : 1048576 < n
  · go_enter Try.func8, Try.ntmps8
    go_wp2_with fail
    go_ret
    exact ⟨rfl, (by repeat (first | exact Below.refl _ _ | assumption | refine bel_drewN ?_ _ | refine bel_drew ?_ | refine bel_alloc ?_ _ | refine bel_set ?_ (by simp; omega) _ | refine bel_set ?_ (by simp) _ | refine bel_trans ?_ (by assumption)))⟩
  · by_cases hn1 : 1048576 < n1
    · go_enter Try.func8, Try.ntmps8
      go_wp2_with fail
      go_ret
      exact ⟨rfl, (by repeat (first | exact Below.refl _ _ | assumption | refine bel_drewN ?_ _ | refine bel_drew ?_ | refine bel_alloc ?_ _ | refine bel_set ?_ (by simp; omega) _ | refine bel_set ?_ (by simp) _ | refine bel_trans ?_ (by assumption)))⟩
    · go_enter Try.func8, Try.ntmps8
      go_wp2_with fail
      refine (draw_conf_pa _ _ _ _ hnc hcm hb).mono ?_
      rintro e w1 ⟨v, l, rfl, hl, ho, hw1⟩
      clear hb hb1
      go_wp2_with fail
      refine (impl_pa _ l _ ho.at_ (by omega)).mono ?_
      rintro e w2 ⟨rfl, hw2⟩
      have L2 := bel_trans hw1 hw2
      have ho2 := ho.below hw2
      clear hw1 hw2 ho
      go_wp2_with fail
      refine (spec_pa _ l _ ho2.at_ (by omega)).mono ?_
      rintro e w3 ⟨rfl, hw3⟩
      have L3 := bel_trans L2 hw3
      have ho3 := ho2.below hw3
      clear L2 hw3 ho2
      cases hc : cfgB l
      · have hE : paB l = -1 := by simp [paB, hc]
        rw [hE]
        clear hc hE
        go_wp2_with fail
        go_ret
        exact ⟨rfl, (by repeat (first | exact Below.refl _ _ | assumption | refine bel_drewN ?_ _ | refine bel_drew ?_ | refine bel_alloc ?_ _ | refine bel_set ?_ (by simp; omega) _ | refine bel_set ?_ (by simp) _ | refine bel_trans ?_ (by assumption)))⟩
      · have hp := cfg_pos hc
        have hE2 : paB l = 0 ∨ paB l = 1 := by rw [paB_tot hc]; omega
        obtain ⟨E, hE⟩ : ∃ E, paB l = E := ⟨_, rfl⟩
        rw [hE] at hE2 ⊢
        have HE := Lib.hid hE
        clear hE
        have hE0 : 0 ≤ E := by omega
        have hE1 : E ≤ 1 := by omega
        have hd4 : decide (E < 0) = false := by simp; omega
        rcases ho3.free with ⟨_, h0⟩ | ⟨g, cap, cur, hgb, hBg, rfl, hcp, hcm, hcur, hsz⟩
        · omega
        · have hk : n1 % l.length < l.length := Nat.mod_lt _ hp
          have e1 : (n1 : Int).tmod l.length = ((n1 % l.length : Nat) : Int) := rfl
          generalize n1 % l.length = k at *
          unfold maxLen at hcm
          have hk0 : (0 : Int) ≤ k := by omega
          have hk1 : (k : Int) < l.length := by omega
          have hkc : (k : Int) ≤ cap := by omega
          have hk2 : (k : Int) ≤ l.length := by omega
          have HC := Lib.hid hc
          clear hc
          by_cases hkz : k = 0
          · have hd0 : ((k : Int) == 0) = true := by simp [hkz]
            clear hkz
            rcases hE2 with hE2 | hE2
            all_goals
              have hd1 : (E == 0) = decide (E = 0) := rfl
              subst hE2
              go_wp2_with fail
              go_ret
              exact ⟨rfl, (by repeat (first | exact Below.refl _ _ | assumption | refine bel_drewN ?_ _ | refine bel_drew ?_ | refine bel_alloc ?_ _ | refine bel_set ?_ (by simp; omega) _ | refine bel_set ?_ (by simp) _ | refine bel_trans ?_ (by assumption)))⟩
          · have hd0 : ((k : Int) == 0) = false := by simp; omega
            have P2 := fun w => run_part w g l.length cap shUnd shSize (k : Int) (by omega) (by omega)
            rw [Int.toNat_natCast] at P2
            have hct := cfg_take HC.out (show 0 < k by omega) hk
            have hcd := cfg_drop HC.out hk
            have hpt := paB_tot hct
            have hpd := paB_tot hcd
            have hps : E = (tot par (l.take k) % 2 + tot par (l.drop k) % 2) % 2 := by rw [← HE.out, paB_tot HC.out, tot_split par l k]; omega
            have hb0 : 0 ≤ tot par (l.take k) % 2 ∧ tot par (l.take k) % 2 ≤ 1 := by omega
            have hb1 : 0 ≤ tot par (l.drop k) % 2 ∧ tot par (l.drop k) % 2 ≤ 1 := by omega
            have hlt : (l.take k).length ≤ 1048576 := by rw [List.length_take]; omega
            have hld : (l.drop k).length ≤ 1048576 := by rw [List.length_drop]; omega
            have HLT := Lib.hid hlt
            have HLD := Lib.hid hld
            have hat := ho3.take_at hcp (show k ≤ l.length by omega)
            have had := ho3.drop_at hcp hk
            obtain ⟨x, hx⟩ : ∃ x, tot par (l.take k) % 2 = x := ⟨_, rfl⟩
            obtain ⟨y, hy⟩ : ∃ y, tot par (l.drop k) % 2 = y := ⟨_, rfl⟩
            rw [hx] at hpt hps hb0
            rw [hy] at hpd hps hb1
            clear hx hy
            obtain ⟨hx0, hx1⟩ := hb0
            obtain ⟨hy0, hy1⟩ := hb1
            have HPT := Lib.hid hpt
            have HPD := Lib.hid hpd
            have ew : IntKind.i64.wrap (x + y) = x + y := IntWalk.i64_in _ (by omega)
            have em : (x + y).tmod 2 = (x + y) % 2 := Int.tmod_eq_emod_of_nonneg (by omega)
            clear hlt hld hct hcd hpt hpd
            subst hps
            go_wp2_with fail
            have LB := L3
            (refine wp_region_bel (by kernel_rfl) (by kernel_rfl) ?_; (repeat (first | go_big_quiet_skip | (go_big_quiet_want; first | (go_big_quiet_op; go_big_quiet_on) | (unfold Oper.quiet; apply Exists.intro; refine ⟨fun wx hCx => ?_, ?_⟩; (focus (obtain ⟨hcx, hfx⟩ := bcell hCx; go_simp; first | done | exact rfl | (with_reducible exact (impl_paz (hat.bel hCx) HLT.out HPT.out).mono (fun _ _ hz => ⟨hz.1, bel_trans hCx hz.2⟩)) | (with_reducible exact (impl_paz (had.bel hCx) HLD.out HPD.out).mono (fun _ _ hz => ⟨hz.1, bel_trans hCx hz.2⟩)) | exact (impl_paz (hat.bel hCx) HLT.out HPT.out).mono (fun _ _ hz => ⟨hz.1, bel_trans hCx hz.2⟩) | exact (impl_paz (had.bel hCx) HLD.out HPD.out).mono (fun _ _ hz => ⟨hz.1, bel_trans hCx hz.2⟩))); simp only [Act.put, List.setIfInBounds_toArray, List.set_cons_zero, List.set_cons_succ]; go_big_quiet_on)))); refine wpQuiet_nil ?_; intro wq hCq)
            go_wp2_with fail
            go_ret
            exact ⟨rfl, (by repeat (first | exact Below.refl _ _ | assumption | refine bel_drewN ?_ _ | refine bel_drew ?_ | refine bel_alloc ?_ _ | refine bel_set ?_ (by simp; omega) _ | refine bel_set ?_ (by simp) _ | refine bel_trans ?_ (by assumption)))⟩

set_option maxRecDepth 100000 in
theorem lifted (os : Os) (started : os.Started) (H : Type) (enc : TypeId × Value → H) :
    ReturnsInHanded {} Try.checked os 8 .any (Rows.fnConfigParitySpec.pre6 enc Try.prog Try.f8 Rows.fnConfigParityRow.domain false) (Rows.fnConfigParitySpec.post enc Try.prog Try.f8 false true false false) := by
  refine returnsInHanded_of_change (C := Try.checked) own started (by kernel_rfl) Try.func8
    (ChangeSpec.witness6 (enc := enc) (C := Try.checked) false ⟨#[], #[.slice none 0 0, .slice none 0 0], []⟩ 8 (by kernel_rfl) (by kernel_rfl) (by kernel_rfl) (by kernel_rfl)) ?_
  intro W base args ds gs before hval0 hW hcnd _
  have hval : ∀ (j : Nat) t v, Try.f8.params[j]? = some t → args[j]? = some v → Value.okWide Try.prog W .any base t v := hval0
  have hW' := hW
  have hlt := hW.lt
  obtain ⟨p, q, hA0, hV, rfl, hfz, hnd⟩ := hW
  have hA : DataW.TrodAll enc Try.prog W 0 (fun _ => true) true Try.f8.params.toList args.toList ds p := hA0
  rw [Try.params8] at hA hval
  obtain ⟨v0, vs0, d0, ds0, p0, q0, hargs, rfl, rfl, h0, r0⟩ := trodAll_cons hA
  obtain ⟨v1, vs1, d1, ds1, p1, q1, rfl, rfl, rfl, h1, r1⟩ := trodAll_cons r0
  obtain ⟨rfl, rfl, rfl⟩ := trodAll_nil r1
  obtain rfl : args = #[v0, v1] := by cases args; simp_all
  obtain ⟨rfl, rfl⟩ := trodVars_none hV
  clear hA0 hval0 hA hfz hnd
  obtain ⟨a0, n0, c0, rfl, hnc0, hcm0, hb0⟩ := open_bytes Try.underlying29 Try.underlying5 (by kernel_rfl) (hval 0 29 v0 rfl rfl) h0 (fun x hx => hlt x (by simp [hx]))
  obtain ⟨a1, n1, c1, rfl, hnc1, hcm1, hb1⟩ := open_bytes Try.underlying29 Try.underlying5 (by kernel_rfl) (hval 1 29 v1 rfl rfl) h1 (fun x hx => hlt x (by simp [hx]))
  exact law_close laidOut (by kernel_rfl) rfl Try.underlying4 rfl rfl hW' (walk a0 n0 c0 a1 n1 c1 W hnc0 hcm0 hb0 hnc1 hcm1 hb1)

theorem over : Rows.fnConfigParityRow.holds Try.pinned (OpenSpec.ofChange Rows.fnConfigParitySpec) :=
  OpenClaim.holds_of_wide 8 Try.f8 rfl rfl rfl rfl rfl rfl rfl ⟨rfl, rfl, rfl, rfl, rfl⟩ rfl rfl rfl rfl rfl (by kernel_rfl) Try.func8 (by kernel_rfl)
    (of_decide_eq_true (by kernel_rfl)) (by unfold Func.isWrapper; first | (rw [if_pos (by decide +kernel)]; kernel_rfl) | (rw [if_neg (by decide +kernel)]; exact ⟨rfl, rfl⟩))
    (fun os started H enc _ => lifted os started H enc)

theorem proved : Rows.FnConfigParitySaid := over
end Go.Proofs.Ytocknafdgeneoaa.fnConfigParity
