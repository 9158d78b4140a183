/- Electrons are counted shell by shell: the law returns true for all bytes. No condition. -/
import Derived.Test.YtocknafdgeneoaaDrawConfs
import Derived.Test.YtocknafdgeneoaaConfPlain
namespace Go.Proofs.Ytocknafdgeneoaa.fnConfigElectrons
open Go.ChangeShapes Go.WideShapes Go.ChangeAt Go.RowKit Go.Deep Go.Joins
set_option linter.unusedVariables false

set_option maxHeartbeats 4000000 in
set_option maxRecDepth 100000 in
theorem walk (a : Option Addr) (n c : Nat) (a1 : Option Addr) (n1 c1 : Nat) (W : World) (hnc : n ≤ c) (hcm : c ≤ maxLen) (hb : Bytes W W.heap.size a n) (hnc1 : n1 ≤ c1) (hcm1 : c1 ≤ maxLen) (hb1 : Bytes W W.heap.size a1 n1) :
    Calls Try.prog 7 #[.slice a n c, .slice a1 n1 c1] W fun e W' => e = .returned (.bool true) ∧ Below W.heap.size W W' := by
  have hcm' := hcm
  have hcm1' := hcm1
  unfold maxLen at hcm' hcm1'
  by_cases hn : 1048576 < n
  · go_enter Try.func7, Try.ntmps7
    go_wp2_with fail
    go_ret
    exact ⟨rfl, (by repeat (first | exact Below.refl _ _ | assumption | refine bel_drewN ?_ _ | refine bel_drew ?_ | refine bel_alloc ?_ _ | refine bel_set ?_ (by simp; omega) _ | refine bel_set ?_ (by simp) _ | refine bel_trans ?_ (by assumption)))⟩
  · by_cases hn1 : 1048576 < n1
    · go_enter Try.func7, Try.ntmps7
      go_wp2_with fail
      go_ret
      exact ⟨rfl, (by repeat (first | exact Below.refl _ _ | assumption | refine bel_drewN ?_ _ | refine bel_drew ?_ | refine bel_alloc ?_ _ | refine bel_set ?_ (by simp; omega) _ | refine bel_set ?_ (by simp) _ | refine bel_trans ?_ (by assumption)))⟩
    · go_enter Try.func7, Try.ntmps7
      go_wp2_with fail
      refine (draw_conf_el _ _ _ _ hnc hcm hb).mono ?_
      rintro e w1 ⟨v, l, rfl, hl, ho, hw1⟩
      clear hb hb1
      go_wp2_with fail
      refine (impl_el _ l _ ho.at_ (by omega)).mono ?_
      rintro e w2 ⟨rfl, hw2⟩
      have L2 := bel_trans hw1 hw2
      have ho2 := ho.below hw2
      clear hw1 hw2 ho
      go_wp2_with fail
      refine (spec_el _ l _ ho2.at_ (by omega)).mono ?_
      rintro e w3 ⟨rfl, hw3⟩
      have L3 := bel_trans L2 hw3
      have ho3 := ho2.below hw3
      clear L2 hw3 ho2
      cases hc : cfgB l
      · have hE : elB l = -1 := by simp [elB, hc]
        rw [hE]
        clear hc hE
        go_wp2_with fail
        go_ret
        exact ⟨rfl, (by repeat (first | exact Below.refl _ _ | assumption | refine bel_drewN ?_ _ | refine bel_drew ?_ | refine bel_alloc ?_ _ | refine bel_set ?_ (by simp; omega) _ | refine bel_set ?_ (by simp) _ | refine bel_trans ?_ (by assumption)))⟩
      · have hp := cfg_pos hc
        have hge := el_ge hc
        have hbd := vsum_bd (cnt_bd hc) l.length (Nat.le_refl _)
        rw [← show elB l = vsum cnt l l.length by rw [elB, if_pos hc]] at hbd
        obtain ⟨E, hE⟩ : ∃ E, elB l = E := ⟨_, rfl⟩
        rw [hE] at hge hbd ⊢
        have HE := Lib.hid hE
        clear hE
        have hE0 : 0 ≤ E := hbd.1
        have hE1 : E ≤ 14 * l.length := hbd.2
        clear hbd
        rcases ho3.free with ⟨_, h0⟩ | ⟨g, cap, cur, hgb, hBg, rfl, hcp, hcm, hcur, hsz⟩
        · omega
        · have hk : n1 % l.length < l.length := Nat.mod_lt _ hp
          have e1 : (n1 : Int).tmod l.length = ((n1 % l.length : Nat) : Int) := rfl
          generalize n1 % l.length = k at *
          unfold maxLen at hcm
          have hk0 : (0 : Int) ≤ k := by omega
          have hk1 : (k : Int) < l.length := by omega
          have hkc : (k : Int) ≤ cap := by omega
          have hk2 : (k : Int) + 1 ≤ l.length := by omega
          have hk3 : (k : Int) + 1 ≤ cap := by omega
          have hk4 : (0 : Int) ≤ (k : Int) + 1 := by omega
          have hd4 : decide (E < 0) = false := by simp; omega
          have ek : IntKind.i64.wrap ((k : Int) + 1) = k + 1 := IntWalk.i64_in _ (by omega)
          have hkn : ((k : Int) + 1).toNat = k + 1 := by omega
          have HC := Lib.hid hc
          clear hc
          go_wp2_with fail
          have hg3 := hcur.lt
          have P1 := fun w => run_part w g l.length cap shUnd shSize ((k : Int) + 1) (by omega) (by omega)
          rw [hkn] at P1
          have hD : (Try.prog.underlying 25) = some (.slice (Try.prog.elem 25)) := shUnd
          have htk : (l.take k).length = k := by rw [List.length_take]; omega
          have htd : (l.drop (k + 1)).length = l.length - (k + 1) := List.length_drop
          have HT := Lib.hid htk
          have HD := Lib.hid htd
          clear htk htd hD
          have N3 := (ho3.newsFrom hcp (k + 1)).below (bel_alloc (bel_drew (Below.refl w3.heap.size w3)) (.cells #[] 34)) (by rw [partAd_block]; exact hg3)
          go_region_law (first
            | (refine step_app w3.heap.size (by rfl) 39 42 (by rfl) _ [] (by rfl) (OwnSh.empty w3.drew w3.heap.size (by simp)) (by simp) _ (l.take (k)) _ _ HT.out (by rfl) ((ho3.news 0 (l.take (k)) (List.take_prefix _ _)).below (bel_alloc (bel_drew (Below.refl _ _)) _) hg3) (by simp; omega) ?_; intro v4 w4 ho4 hg4 _)
            | (refine step_app w3.heap.size (by rfl) 43 47 (by rfl) _ ([] ++ l.take (k)) (by rfl) ho4 (by have := hg4.size; simp at this; omega) _ (l.drop (k + 1)) _ _ HD.out (by rfl) (N3.grown hg4 (by rw [partAd_block]; simp [Value.ownBlock]; omega)) (by simp; omega) ?_; intro vx w5 hox hg5 _))
          have L5 := bel_cut hg4 ho4 hg5
          have ho5 := ho3.below L5
          have L5 := bel_trans L3 L5
          clear N3 hg4 ho4 hg5 ho3 L3 P1
          obtain ⟨s, hs⟩ : ∃ s, l[k]? = some s := ⟨_, List.getElem?_eq_getElem hk⟩
          have hsd : l.getD k sh0 = s := by simp [List.getD, hs]
          have hsb := okSh_bd (cfg_sh HC.out hk)
          rw [hsd] at hsb
          have hes : E = tot cnt (l.take k ++ l.drop (k + 1)) + s.2.2 := by rw [← hsd, ← HE.out, elB_tot HC.out]; exact tot_erase cnt l hk
          obtain ⟨_, _, k2⟩ := flat_get l k s hs
          have r2 : w5.cell? ⟨g, k * 3 + 2, none⟩ = some (.int .i64 s.2.2) := (World.ownsRow.cellAt ho5 (k * 3 + 2) (by omega)).trans k2
          have hg6 := (World.ownsRow.lt ho5 g rfl).2
          have hxl : (l.take k ++ l.drop (k + 1)).length ≤ 1048576 := by rw [List.length_append, List.length_take, List.length_drop]; omega
          have HXL := Lib.hid hxl
          rw [List.nil_append] at hox
          have HS := Lib.hid hs
          have HSD := Lib.hid hsd
          clear hxl hs hsd k2 hsz
          by_cases h1 : l.length = 1
          · have hk0 : k = 0 := by omega
            have r2 : w5.cell? ⟨g, 2, none⟩ = some (.int .i64 s.2.2) := by rw [hk0] at r2; exact r2
            have hd1 : decide ((l.length : Int) ≤ E) = true := by simp; omega
            have hd2 : ((l.length : Int) == 1) = true := by simp; omega
            have hE1 : E = s.2.2 := by
              rw [hes]
              have : l.take k ++ l.drop (k + 1) = [] := List.eq_nil_of_length_eq_zero (by rw [List.length_append, List.length_take, List.length_drop]; omega)
              rw [this]; simp [tot]
            clear hes hk0 h1
            subst hE1
            have hd7 : (1 : Int) ≤ s.2.2 := by omega
            (simp only [List.getElem_toArray, List.getElem_cons_succ, List.getElem_cons_zero, Act.put, List.setIfInBounds_toArray, List.set_cons_zero, List.set_cons_succ])
            go_wp2_with fail
            have LB := L5
            (refine wp_region_bel (by kernel_rfl) (by kernel_rfl) ?_; (repeat (first | go_big_quiet_skip | (go_big_quiet_want; first | (go_big_quiet_op; go_big_quiet_on) | (unfold Oper.quiet; apply Exists.intro; refine ⟨fun wx hCx => ?_, ?_⟩; (focus (obtain ⟨hcx, hfx⟩ := bcell hCx; go_simp; first | done | exact rfl | exact (impl_el _ _ wx (hox.at_.bel hCx) HXL.out).mono (fun _ _ hz => ⟨hz.1, bel_trans hCx hz.2⟩))); simp only [Act.put, List.setIfInBounds_toArray, List.set_cons_zero, List.set_cons_succ]; go_big_quiet_on)))); refine wpQuiet_nil ?_; intro wq hCq)
            go_wp2_with fail
            go_ret
            exact ⟨rfl, (by repeat (first | exact Below.refl _ _ | assumption | refine bel_drewN ?_ _ | refine bel_drew ?_ | refine bel_alloc ?_ _ | refine bel_set ?_ (by simp; omega) _ | refine bel_set ?_ (by simp) _ | refine bel_trans ?_ (by assumption)))⟩
          · have hd1 : decide ((l.length : Int) ≤ E) = true := by simp; omega
            have hd2 : ((l.length : Int) == 1) = false := by simp; omega
            have hd3 : decide (1 < (l.length : Int)) = true := by simp; omega
            have hxc := cfg_erase HC.out hk
            rw [decide_eq_true (by omega)] at hxc
            have hex := elB_tot hxc
            have hxge := el_ge hxc
            rw [hex] at hxge
            obtain ⟨z, hz⟩ : ∃ z, tot cnt (l.take k ++ l.drop (k + 1)) = z := ⟨_, rfl⟩
            rw [hz] at hes hex hxge
            have HEX := Lib.hid hex
            have hz0 : 0 ≤ z := by omega
            have hz1 : z ≤ 1000 := by omega
            have ew : IntKind.i64.wrap (z + s.2.2) = z + s.2.2 := IntWalk.i64_in _ (by omega)
            clear hex hz hxc hxge
            subst hes
            (simp only [List.getElem_toArray, List.getElem_cons_succ, List.getElem_cons_zero, Act.put, List.setIfInBounds_toArray, List.set_cons_zero, List.set_cons_succ])
            go_wp2_with fail
            have LB := L5
            (refine wp_region_bel (by kernel_rfl) (by kernel_rfl) ?_; (repeat (first | go_big_quiet_skip | (go_big_quiet_want; first | (go_big_quiet_op; go_big_quiet_on) | (unfold Oper.quiet; apply Exists.intro; refine ⟨fun wx hCx => ?_, ?_⟩; (focus (obtain ⟨hcx, hfx⟩ := bcell hCx; go_simp; first | done | exact rfl | exact (impl_elz (hox.at_.bel hCx) HXL.out HEX.out).mono (fun _ _ hz => ⟨hz.1, bel_trans hCx hz.2⟩))); simp only [Act.put, List.setIfInBounds_toArray, List.set_cons_zero, List.set_cons_succ]; go_big_quiet_on)))); refine wpQuiet_nil ?_; intro wq hCq)
            go_wp2_with fail
            go_ret
            exact ⟨rfl, (by repeat (first | exact Below.refl _ _ | assumption | refine bel_drewN ?_ _ | refine bel_drew ?_ | refine bel_alloc ?_ _ | refine bel_set ?_ (by simp; omega) _ | refine bel_set ?_ (by simp) _ | refine bel_trans ?_ (by assumption)))⟩

set_option maxRecDepth 100000 in
theorem lifted (os : Os) (started : os.Started) (H : Type) (enc : TypeId × Value → H) :
    ReturnsInHanded {} Try.checked os 7 .any (Rows.fnConfigElectronsSpec.pre6 enc Try.prog Try.f7 Rows.fnConfigElectronsRow.domain false) (Rows.fnConfigElectronsSpec.post enc Try.prog Try.f7 false true false false) := by
  refine returnsInHanded_of_change (C := Try.checked) own started (by kernel_rfl) Try.func7
    (ChangeSpec.witness6 (enc := enc) (C := Try.checked) false ⟨#[], #[.slice none 0 0, .slice none 0 0], []⟩ 8 (by kernel_rfl) (by kernel_rfl) (by kernel_rfl) (by kernel_rfl)) ?_
  intro W base args ds gs before hval0 hW hcnd _
  have hval : ∀ (j : Nat) t v, Try.f7.params[j]? = some t → args[j]? = some v → Value.okWide Try.prog W .any base t v := hval0
  have hW' := hW
  have hlt := hW.lt
  obtain ⟨p, q, hA0, hV, rfl, hfz, hnd⟩ := hW
  have hA : DataW.TrodAll enc Try.prog W 0 (fun _ => true) true Try.f7.params.toList args.toList ds p := hA0
  rw [Try.params7] at hA hval
  obtain ⟨v0, vs0, d0, ds0, p0, q0, hargs, rfl, rfl, h0, r0⟩ := trodAll_cons hA
  obtain ⟨v1, vs1, d1, ds1, p1, q1, rfl, rfl, rfl, h1, r1⟩ := trodAll_cons r0
  obtain ⟨rfl, rfl, rfl⟩ := trodAll_nil r1
  obtain rfl : args = #[v0, v1] := by cases args; simp_all
  obtain ⟨rfl, rfl⟩ := trodVars_none hV
  clear hA0 hval0 hA hfz hnd
  obtain ⟨a0, n0, c0, rfl, hnc0, hcm0, hb0⟩ := open_bytes Try.underlying29 Try.underlying5 (by kernel_rfl) (hval 0 29 v0 rfl rfl) h0 (fun x hx => hlt x (by simp [hx]))
  obtain ⟨a1, n1, c1, rfl, hnc1, hcm1, hb1⟩ := open_bytes Try.underlying29 Try.underlying5 (by kernel_rfl) (hval 1 29 v1 rfl rfl) h1 (fun x hx => hlt x (by simp [hx]))
  exact law_close laidOut (by kernel_rfl) rfl Try.underlying4 rfl rfl hW' (walk a0 n0 c0 a1 n1 c1 W hnc0 hcm0 hb0 hnc1 hcm1 hb1)

theorem over : Rows.fnConfigElectronsRow.holds Try.pinned (OpenSpec.ofChange Rows.fnConfigElectronsSpec) :=
  OpenClaim.holds_of_wide 7 Try.f7 rfl rfl rfl rfl rfl rfl rfl ⟨rfl, rfl, rfl, rfl, rfl⟩ rfl rfl rfl rfl rfl (by kernel_rfl) Try.func7 (by kernel_rfl)
    (of_decide_eq_true (by kernel_rfl)) (by unfold Func.isWrapper; first | (rw [if_pos (by decide +kernel)]; kernel_rfl) | (rw [if_neg (by decide +kernel)]; exact ⟨rfl, rfl⟩))
    (fun os started H enc _ => lifted os started H enc)

theorem proved : Rows.FnConfigElectronsSaid := over
end Go.Proofs.Ytocknafdgeneoaa.fnConfigElectrons
