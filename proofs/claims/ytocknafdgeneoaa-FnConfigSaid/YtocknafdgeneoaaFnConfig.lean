/- Parts of a configuration are configurations: the law returns true for all bytes. No condition. -/
import Derived.Test.YtocknafdgeneoaaDrawConfs
import Derived.Test.YtocknafdgeneoaaConfPlain
namespace Go.Proofs.Ytocknafdgeneoaa.fnConfig
open Go.ChangeShapes Go.WideShapes Go.ChangeAt Go.RowKit Go.Deep Go.Joins
set_option linter.unusedVariables false

set_option maxHeartbeats 2000000 in
theorem walk (a : Option Addr) (n c : Nat) (a1 : Option Addr) (n1 c1 : Nat) (W : World) (hnc : n ≤ c) (hcm : c ≤ maxLen) (hb : Bytes W W.heap.size a n) (hnc1 : n1 ≤ c1) (hcm1 : c1 ≤ maxLen) (hb1 : Bytes W W.heap.size a1 n1) :
    Calls Try.prog 4 #[.slice a n c, .slice a1 n1 c1] W fun e W' => e = .returned (.bool true) ∧ Below W.heap.size W W' := by
  have hcm' := hcm
  have hcm1' := hcm1
  unfold maxLen at hcm' hcm1'
  by_cases hn : 1048576 < n
  · go_enter Try.func4, Try.ntmps4
    go_wp2_with fail
    go_ret
    exact ⟨rfl, (by repeat (first | exact Below.refl _ _ | assumption | refine bel_drewN ?_ _ | refine bel_drew ?_ | refine bel_alloc ?_ _ | refine bel_set ?_ (by simp; omega) _ | refine bel_set ?_ (by simp) _ | refine bel_trans ?_ (by assumption)))⟩
  · by_cases hn1 : 1048576 < n1
    · go_enter Try.func4, Try.ntmps4
      go_wp2_with fail
      go_ret
      exact ⟨rfl, (by repeat (first | exact Below.refl _ _ | assumption | refine bel_drewN ?_ _ | refine bel_drew ?_ | refine bel_alloc ?_ _ | refine bel_set ?_ (by simp; omega) _ | refine bel_set ?_ (by simp) _ | refine bel_trans ?_ (by assumption)))⟩
    · go_enter Try.func4, Try.ntmps4
      go_wp2_with fail
      refine (draw_conf_valid _ _ _ _ hnc hcm hb).mono ?_
      rintro e w1 ⟨v, l, rfl, hl, ho, hw1⟩
      clear hb hb1
      go_wp2_with fail
      refine (impl_cfg _ l _ ho.at_).mono ?_
      rintro e w2 ⟨rfl, hw2⟩
      have L2 := bel_trans hw1 hw2
      have ho2 := ho.below hw2
      clear hw1 hw2 ho
      go_wp2_with fail
      refine (spec_cfg _ l _ ho2.at_).mono ?_
      rintro e w3 ⟨rfl, hw3⟩
      have L3 := bel_trans L2 hw3
      have ho3 := ho2.below hw3
      clear L2 hw3 ho2
      cases hc : cfgB l
      · clear hc
        go_wp2_with fail
        go_ret
        exact ⟨rfl, (by repeat (first | exact Below.refl _ _ | assumption | refine bel_drewN ?_ _ | refine bel_drew ?_ | refine bel_alloc ?_ _ | refine bel_set ?_ (by simp; omega) _ | refine bel_set ?_ (by simp) _ | refine bel_trans ?_ (by assumption)))⟩
      · have hp := cfg_pos hc
        rcases ho3.free with ⟨_, h0⟩ | ⟨g, cap, cur, hgb, hBg, rfl, hcp, hcm, hcur, hsz⟩
        · omega
        · have hk : n1 % l.length < l.length := Nat.mod_lt _ hp
          have e1 : (n1 : Int).tmod l.length = ((n1 % l.length : Nat) : Int) := rfl
          generalize n1 % l.length = k at *
          unfold maxLen at hcm
          have hk0 : (0 : Int) ≤ k := by omega
          have hk1 : (k : Int) < l.length := by omega
          have hkc : (k : Int) ≤ cap := by omega
          have hk2 : (k : Int) + 1 ≤ l.length := by omega
          have hk3 : (k : Int) + 1 ≤ cap := by omega
          have hk4 : (0 : Int) ≤ (k : Int) + 1 := by omega
          have ek : IntKind.i64.wrap ((k : Int) + 1) = k + 1 := IntWalk.i64_in _ (by omega)
          have hkn : ((k : Int) + 1).toNat = k + 1 := by omega
          have HC := Lib.hid hc
          clear hc
          go_wp2_with fail
          have hg3 := hcur.lt
          have P1 := fun w => run_part w g l.length cap shUnd shSize ((k : Int) + 1) (by omega) (by omega)
          rw [hkn] at P1
          have hD : (Try.prog.underlying 25) = some (.slice (Try.prog.elem 25)) := shUnd
          have htk : (l.take k).length = k := by rw [List.length_take]; omega
          have htd : (l.drop (k + 1)).length = l.length - (k + 1) := List.length_drop
          have HT := Lib.hid htk
          have HD := Lib.hid htd
          clear htk htd hD
          have N3 := (ho3.newsFrom hcp (k + 1)).below (bel_alloc (bel_drew (Below.refl w3.heap.size w3)) (.cells #[] 34)) (by rw [partAd_block]; exact hg3)
          go_region_law (first
            | (refine step_app w3.heap.size (by rfl) 40 43 (by rfl) _ [] (by rfl) (OwnSh.empty w3.drew w3.heap.size (by simp)) (by simp) _ (l.take (k)) _ _ HT.out (by rfl) ((ho3.news 0 (l.take (k)) (List.take_prefix _ _)).below (bel_alloc (bel_drew (Below.refl _ _)) _) hg3) (by simp; omega) ?_; intro v4 w4 ho4 hg4 _)
            | (refine step_app w3.heap.size (by rfl) 44 48 (by rfl) _ ([] ++ l.take (k)) (by rfl) ho4 (by have := hg4.size; simp at this; omega) _ (l.drop (k + 1)) _ _ HD.out (by rfl) (N3.grown hg4 (by rw [partAd_block]; simp [Value.ownBlock]; omega)) (by simp; omega) ?_; intro vx w5 hox hg5 _))
          have L5 := bel_cut hg4 ho4 hg5
          have ho5 := ho3.below L5
          have L5 := bel_trans L3 L5
          clear N3 hg4 ho4 hg5 ho3 L3 P1
          have hg6 := (World.ownsRow.lt ho5 g rfl).2
          have P2 := fun w => run_part w g l.length cap shUnd shSize (k : Int) (by omega) (by omega)
          rw [Int.toNat_natCast] at P2
          have HT2 := Lib.hid (show (l.take (k + 1)).length = k + 1 by rw [List.length_take]; omega)
          have HD2 := Lib.hid (show (l.drop k).length = l.length - k from List.length_drop)
          go_wp2_with fail
          have N3 := (ho5.newsFrom hcp (k)).below (bel_alloc (bel_drew (Below.refl w5.heap.size w5)) (.cells #[] 34)) (by rw [partAd_block]; exact hg6)
          go_region_law (first
            | (refine step_app w5.heap.size (by rfl) 50 54 (by rfl) _ [] (by rfl) (OwnSh.empty w5.drew w5.heap.size (by simp)) (by simp) _ (l.take (k + 1)) _ _ HT2.out (by rfl) ((ho5.news 0 (l.take (k + 1)) (List.take_prefix _ _)).below (bel_alloc (bel_drew (Below.refl _ _)) _) hg6) (by simp; omega) ?_; intro v4 w4 ho4 hg4 _)
            | (refine step_app w5.heap.size (by rfl) 55 58 (by rfl) _ ([] ++ l.take (k + 1)) (by rfl) ho4 (by have := hg4.size; simp at this; omega) _ (l.drop (k)) _ _ HD2.out (by rfl) (N3.grown hg4 (by rw [partAd_block]; simp [Value.ownBlock]; omega)) (by simp; omega) ?_; intro vy w6 hoy hg7 _))
          have L6 := bel_cut hg4 ho4 hg7
          have hox := hox.below L6
          have L6 := bel_trans L5 L6
          clear N3 hg4 ho4 hg7 ho5 L5 P2
          have HX := Lib.hid (cfg_erase HC.out hk)
          have HY := Lib.hid (cfg_dup hk)
          go_wp2_with fail
          refine (impl_cfg _ _ _ hox.at_).mono ?_
          rintro e w7 ⟨rfl, hw7⟩
          have L7 := bel_trans L6 hw7
          have hoy := hoy.below hw7
          rw [List.nil_append, HX.out]
          clear hw7 L6 hox
          by_cases h1 : 1 < l.length
          all_goals
            have h1' : (1 : Int) < l.length ∨ ¬ (1 : Int) < l.length := by omega
            go_wp2_with fail
            refine (impl_cfg _ _ _ hoy.at_).mono ?_
            rintro e w8 ⟨rfl, hw8⟩
            have L8 := bel_trans L7 hw8
            rw [List.nil_append, HY.out]
            go_wp2_with fail
            go_ret
            exact ⟨by first | rfl | (simp [h1]; done) | (simp [h1]; omega), L8⟩

set_option maxRecDepth 100000 in
theorem lifted (os : Os) (started : os.Started) (H : Type) (enc : TypeId × Value → H) :
    ReturnsInHanded {} Try.checked os 4 .any (Rows.fnConfigSpec.pre6 enc Try.prog Try.f4 Rows.fnConfigRow.domain false) (Rows.fnConfigSpec.post enc Try.prog Try.f4 false true false false) := by
  refine returnsInHanded_of_change (C := Try.checked) own started (by kernel_rfl) Try.func4
    (ChangeSpec.witness6 (enc := enc) (C := Try.checked) false ⟨#[], #[.slice none 0 0, .slice none 0 0], []⟩ 8 (by kernel_rfl) (by kernel_rfl) (by kernel_rfl) (by kernel_rfl)) ?_
  intro W base args ds gs before hval0 hW hcnd _
  have hval : ∀ (j : Nat) t v, Try.f4.params[j]? = some t → args[j]? = some v → Value.okWide Try.prog W .any base t v := hval0
  have hW' := hW
  have hlt := hW.lt
  obtain ⟨p, q, hA0, hV, rfl, hfz, hnd⟩ := hW
  have hA : DataW.TrodAll enc Try.prog W 0 (fun _ => true) true Try.f4.params.toList args.toList ds p := hA0
  rw [Try.params4] at hA hval
  obtain ⟨v0, vs0, d0, ds0, p0, q0, hargs, rfl, rfl, h0, r0⟩ := trodAll_cons hA
  obtain ⟨v1, vs1, d1, ds1, p1, q1, rfl, rfl, rfl, h1, r1⟩ := trodAll_cons r0
  obtain ⟨rfl, rfl, rfl⟩ := trodAll_nil r1
  obtain rfl : args = #[v0, v1] := by cases args; simp_all
  obtain ⟨rfl, rfl⟩ := trodVars_none hV
  clear hA0 hval0 hA hfz hnd
  obtain ⟨a0, n0, c0, rfl, hnc0, hcm0, hb0⟩ := open_bytes Try.underlying29 Try.underlying5 (by kernel_rfl) (hval 0 29 v0 rfl rfl) h0 (fun x hx => hlt x (by simp [hx]))
  obtain ⟨a1, n1, c1, rfl, hnc1, hcm1, hb1⟩ := open_bytes Try.underlying29 Try.underlying5 (by kernel_rfl) (hval 1 29 v1 rfl rfl) h1 (fun x hx => hlt x (by simp [hx]))
  exact law_close laidOut (by kernel_rfl) rfl Try.underlying4 rfl rfl hW' (walk a0 n0 c0 a1 n1 c1 W hnc0 hcm0 hb0 hnc1 hcm1 hb1)

theorem over : Rows.fnConfigRow.holds Try.pinned (OpenSpec.ofChange Rows.fnConfigSpec) :=
  OpenClaim.holds_of_wide 4 Try.f4 rfl rfl rfl rfl rfl rfl rfl ⟨rfl, rfl, rfl, rfl, rfl⟩ rfl rfl rfl rfl rfl (by kernel_rfl) Try.func4 (by kernel_rfl)
    (of_decide_eq_true (by kernel_rfl)) (by unfold Func.isWrapper; first | (rw [if_pos (by decide +kernel)]; kernel_rfl) | (rw [if_neg (by decide +kernel)]; exact ⟨rfl, rfl⟩))
    (fun os started H enc _ => lifted os started H enc)

theorem proved : Rows.FnConfigSaid := over
end Go.Proofs.Ytocknafdgeneoaa.fnConfig
