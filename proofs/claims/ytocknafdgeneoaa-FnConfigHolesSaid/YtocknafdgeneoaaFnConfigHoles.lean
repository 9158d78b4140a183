/- Holes weigh as much as electrons: the law returns true for all bytes. No condition. -/
import Derived.Test.YtocknafdgeneoaaDrawConfs
import Derived.Test.YtocknafdgeneoaaConfPlain2
namespace Go.Proofs.Ytocknafdgeneoaa.fnConfigHoles
open Go.ChangeShapes Go.WideShapes Go.ChangeAt Go.RowKit Go.Deep Go.Joins
set_option linter.unusedVariables false

set_option maxHeartbeats 2000000 in
theorem walk (a : Option Addr) (n c : Nat) (W : World) (hnc : n ≤ c) (hcm : c ≤ maxLen) (hb : Bytes W W.heap.size a n) :
    Calls Try.prog 12 #[.slice a n c] W fun e W' => e = .returned (.bool true) ∧ Below W.heap.size W W' := by
  have hcm' := hcm
  unfold maxLen at hcm'
  by_cases hn : 1048576 < n
  · go_enter Try.func12, Try.ntmps12
    go_wp2_with fail
    go_ret
    exact ⟨rfl, (by repeat (first | exact Below.refl _ _ | assumption | refine bel_drewN ?_ _ | refine bel_drew ?_ | refine bel_alloc ?_ _ | refine bel_set ?_ (by simp; omega) _ | refine bel_set ?_ (by simp) _ | refine bel_trans ?_ (by assumption)))⟩
  · go_enter Try.func12, Try.ntmps12
    go_wp2_with fail
    refine (draw_conf_we _ _ _ _ hnc hcm hb).mono ?_
    rintro e w1 ⟨v, l, rfl, hl, ho, hw1⟩
    clear hb
    go_wp2_with fail
    refine (impl_we _ l _ ho.at_).mono ?_
    rintro e w2 ⟨rfl, hw2⟩
    have L2 := bel_trans hw1 hw2
    have ho2 := ho.below hw2
    clear hw1 hw2 ho
    go_wp2_with fail
    refine (spec_we _ l _ ho2.at_).mono ?_
    rintro e w3 ⟨rfl, hw3⟩
    have L3 := bel_trans L2 hw3
    have ho3 := ho2.below hw3
    clear L2 hw3 ho2
    obtain ⟨E, hE⟩ : ∃ E, weB l = E := ⟨_, rfl⟩
    rw [hE]
    by_cases hneg : E < 0
    · clear hE
      go_wp2_with fail
      go_ret
      exact ⟨rfl, (by repeat (first | exact Below.refl _ _ | assumption | refine bel_drewN ?_ _ | refine bel_drew ?_ | refine bel_alloc ?_ _ | refine bel_set ?_ (by simp; omega) _ | refine bel_set ?_ (by simp) _ | refine bel_trans ?_ (by assumption)))⟩
    · have hw0 : 0 ≤ weB l := by omega
      have hc := weB_cfg hw0
      have hp := cfg_pos hc
      have hE0 : 0 ≤ E := by omega
      have hd4 : decide (E < 0) = false := by simp; omega
      have HC := Lib.hid hc
      have HE := Lib.hid hE
      clear hw0 hc hE
      rcases ho3.free with ⟨_, h0⟩ | ⟨g, cp, cur, hgb, hBg, rfl, hcp, hcm, hcur, hsz⟩
      · omega
      · have hg3 := hcur.lt
        go_wp2_with (at_builtin; refine app_list W.heap.size rfl 28 29 rfl _ [] rfl (OwnSh.empty w3 W.heap.size L3.size) (by have := L3.size; simp; omega) _ l l.length _ rfl rfl ((ho3.news 0 l (List.prefix_refl _)).below (bel_alloc (Below.refl _ _) _) hg3) (by simp; omega) ?_; intro vx w5 hox hg5 _)
        have L5 : Below w3.heap.size w3 w5 := (bel_alloc (Below.refl _ _) _).grown hg5 (by simp) (fun k e => by injection e with e; simp at e; omega)
        have L5 := bel_trans L3 L5
        rw [List.nil_append] at hox
        clear ho3 L3 hg5
        rcases hox.free with ⟨_, h0⟩ | ⟨g', cp', cur', hgb', hBg', rfl, hcp', hcm', hcur', hsz'⟩
        · omega
        · go_wp2_with fail
          go_loopg [7] l.length (fun gk i wr => ∃ k : Nat, gk = l.length - k ∧ k ≤ l.length ∧ i = .int .i64 k ∧ OwnSh wr W.heap.size (.slice (some ⟨g', 0, none⟩) l.length cp') (holeUp l k) ∧ Below W.heap.size W wr)
          case atStart => exact ⟨0, rfl, by omega, rfl, by rw [holeUp_zero]; exact hox, L5⟩
          case round =>
            clear hox L5
            obtain ⟨k, rfl, hk, rfl, hox, L5⟩ := hrel
            by_cases hlt : k < l.length
            · have hlt' : (k : Int) < (l.length : Int) := by omega
              have hgs := holeUp_get hlt
              have hsu := holeUp_succ hlt
              have hsb := okSh_bd (cfg_sh HC.out hlt)
              generalize l.getD k sh0 = s at *
              have hcap : cap s.2.1 = 4 * s.2.1 + 2 := if_neg (by omega)
              obtain ⟨r0, r1, r2⟩ := cells_own hox (holeUp_length l k).symm hgs
              have rf := frozen_own hox (holeUp_length l k).symm
              have hcu := fun x => count_own hox (holeUp_length l k).symm hgs x
              by_cases hop : s.2.2 < cap s.2.1
              · have hop' : decide (s.2.2 < cap s.2.1) = true := by simpa using hop
                have hho : hole s = (s.1, s.2.1, cap s.2.1 - s.2.2) := if_pos hop
                rw [hho] at hsu
                have hcu := hcu (cap s.2.1 - s.2.2)
                rw [hsu] at hcu
                have HCU := Lib.hid hcu
                have ew : IntKind.i64.wrap (cap s.2.1 - s.2.2) = cap s.2.1 - s.2.2 := IntWalk.i64_in _ (by omega)
                clear hgs hsu hho hop hcu hcap hox
                go_wp2_with (go_at_call 30; refine (impl_cap _ _).mono ?_; rintro e w' ⟨rfl, rfl⟩)
                go_roundg (l.length - (k + 1))
                case measure => omega
                case rel => exact ⟨k + 1, rfl, by omega, by go_num, HCU.out, (by repeat (first | exact Below.refl _ _ | assumption | refine bel_drewN ?_ _ | refine bel_drew ?_ | refine bel_alloc ?_ _ | refine bel_set ?_ (by simp; omega) _ | refine bel_set ?_ (by simp) _ | refine bel_trans ?_ (by assumption)))⟩
              · have hop' : decide (s.2.2 < cap s.2.1) = false := by simpa using hop
                have hho : hole s = s := if_neg hop
                rw [hho] at hsu
                have hse : (holeUp l k).set k s = holeUp l k := by
                  obtain ⟨hi, he⟩ := List.getElem?_eq_some_iff.1 hgs
                  rw [← he, List.set_getElem_self]
                have HSU := Lib.hid (hsu.symm.trans hse)
                clear hgs hsu hse hho hop hcu hcap
                go_wp2_with (go_at_call 30; refine (impl_cap _ _).mono ?_; rintro e w' ⟨rfl, rfl⟩)
                go_roundg (l.length - (k + 1))
                case measure => omega
                case rel => exact ⟨k + 1, rfl, by omega, by go_num, by rw [HSU.out]; exact hox, L5⟩
            · have hkl : k = l.length := by omega
              have hxm : OwnSh wr W.heap.size (.slice (some ⟨g', 0, none⟩) l.length cp') (l.map hole) := by have h2 := hox; rw [hkl, holeUp_end] at h2; exact h2
              have hwe := hole_we HC.out
              rw [HE.out] at hwe
              have HWE := Lib.hid hwe
              clear hox hwe hkl
              go_wp2_with fail
              refine (impl_wez hxm.at_ HWE.out).mono ?_
              rintro e w7 ⟨rfl, hw7⟩
              have L7 := bel_trans L5 hw7
              go_wp2_with fail
              go_ret
              exact ⟨rfl, L7⟩

set_option maxRecDepth 100000 in
theorem lifted (os : Os) (started : os.Started) (H : Type) (enc : TypeId × Value → H) :
    ReturnsInHanded {} Try.checked os 12 .any (Rows.fnConfigHolesSpec.pre6 enc Try.prog Try.f12 Rows.fnConfigHolesRow.domain false) (Rows.fnConfigHolesSpec.post enc Try.prog Try.f12 false true false false) := by
  refine returnsInHanded_of_change (C := Try.checked) own started (by kernel_rfl) Try.func12
    (ChangeSpec.witness6 (enc := enc) (C := Try.checked) false ⟨#[], #[.slice none 0 0], []⟩ 8 (by kernel_rfl) (by kernel_rfl) (by kernel_rfl) (by kernel_rfl)) ?_
  intro W base args ds gs before hval0 hW hcnd _
  have hval : ∀ (j : Nat) t v, Try.f12.params[j]? = some t → args[j]? = some v → Value.okWide Try.prog W .any base t v := hval0
  have hW' := hW
  have hlt := hW.lt
  obtain ⟨p, q, hA0, hV, rfl, hfz, hnd⟩ := hW
  have hA : DataW.TrodAll enc Try.prog W 0 (fun _ => true) true Try.f12.params.toList args.toList ds p := hA0
  rw [Try.params12] at hA hval
  obtain ⟨v0, vs0, d0, ds0, p0, q0, hargs, rfl, rfl, h0, r0⟩ := trodAll_cons hA
  obtain ⟨rfl, rfl, rfl⟩ := trodAll_nil r0
  obtain rfl : args = #[v0] := by cases args; simp_all
  obtain ⟨rfl, rfl⟩ := trodVars_none hV
  clear hA0 hval0 hA hfz hnd
  obtain ⟨a0, n0, c0, rfl, hnc0, hcm0, hb0⟩ := open_bytes Try.underlying29 Try.underlying5 (by kernel_rfl) (hval 0 29 v0 rfl rfl) h0 (fun x hx => hlt x (by simp [hx]))
  exact law_close laidOut (by kernel_rfl) rfl Try.underlying4 rfl rfl hW' (walk a0 n0 c0 W hnc0 hcm0 hb0)

theorem over : Rows.fnConfigHolesRow.holds Try.pinned (OpenSpec.ofChange Rows.fnConfigHolesSpec) :=
  OpenClaim.holds_of_wide 12 Try.f12 rfl rfl rfl rfl rfl rfl rfl ⟨rfl, rfl, rfl, rfl, rfl⟩ rfl rfl rfl rfl rfl (by kernel_rfl) Try.func12 (by kernel_rfl)
    (of_decide_eq_true (by kernel_rfl)) (by unfold Func.isWrapper; first | (rw [if_pos (by decide +kernel)]; kernel_rfl) | (rw [if_neg (by decide +kernel)]; exact ⟨rfl, rfl⟩))
    (fun os started H enc _ => lifted os started H enc)

theorem proved : Rows.FnConfigHolesSaid := over
end Go.Proofs.Ytocknafdgeneoaa.fnConfigHoles
