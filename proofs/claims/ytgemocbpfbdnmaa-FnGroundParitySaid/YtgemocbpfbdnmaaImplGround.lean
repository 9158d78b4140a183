/-
  The program's ground configuration.
-/
import Derived.Test.YtgemocbpfbdnmaaMapConf
import Derived.Test.YtgemocbpfbdnmaaGroundPlain
namespace Go.Proofs.Ytgemocbpfbdnmaa
open Go.ChangeShapes Go.WideShapes Go.ChangeAt Go.RowKit Go.Deep Go.Joins
open Go.ChangeMaps (setBlock)
set_option linter.unusedVariables false
set_option maxRecDepth 100000

theorem ground_run (z : Int) (h0 : 1 ≤ z) (h1 : z ≤ 118) : (nz (giUp z 19).1).length ≠ 0 ∧ ∀ r, ((giUp z 19).1.map (·.1)).Nodup → Gd r (getF (giUp z 19).1) → r = GL z := by
  have hp := GL_perm h0 h1
  refine ⟨by rw [← hp.length_eq]; exact GL_some h0 h1, fun r hn hr => hr.uniq (Gd.of_perm hn (GL_sorted h0 h1) hp)⟩

theorem giUp_step (z : Int) (k : Nat) : giUp z (k + 1) = if 0 < mn (giUp z k).2 (order.getD k sh0).2.2 then (putF (giUp z k).1 ((order.getD k sh0).1, (order.getD k sh0).2.1) (mn (giUp z k).2 (order.getD k sh0).2.2), (giUp z k).2 - mn (giUp z k).2 (order.getD k sh0).2.2) else ((giUp z k).1, (giUp z k).2) := rfl
theorem gi_all (z : Int) (h0 : 1 ≤ z) (h1 : z ≤ 118) : ∀ k, k ≤ 19 → 0 ≤ (giUp z k).2 ∧ (giUp z k).2 ≤ 118 ∧ (giUp z k).1.length ≤ k := fun k hk => giUp_bd h0 h1 k hk

set_option maxHeartbeats 4000000 in
theorem impl_ground (z : Int) (w : World) : Calls Try.prog 14 #[.int .i64 z] w (PairEnd (GL z) (inB z 1 118) w) := by
  cases hz : inB z 1 118
  · have hzb := inB_false.1 hz
    have HG := Lib.hid (show GL z = [] by simp [GL, hz])
    by_cases h1 : z < 1
    · go_enter Try.func14, Try.ntmps14
      go_wp2_with fail
      exact bodyPost_ret (v := .tuple #[.slice none 0 0, .bool false]) (by simp [results, Try.results14, go_sem]) rfl ⟨_, rfl, by rw [HG.out]; exact OwnSh.nil _ _, (by repeat (first | exact Below.refl _ _ | assumption | refine bel_drewN ?_ _ | refine bel_drew ?_ | refine bel_alloc ?_ _ | refine bel_set ?_ (by simp; omega) _ | refine bel_set ?_ (by simp) _ | refine bel_trans ?_ (by assumption)))⟩
    · have h2 : 118 < z := by omega
      go_enter Try.func14, Try.ntmps14
      go_wp2_with fail
      exact bodyPost_ret (v := .tuple #[.slice none 0 0, .bool false]) (by simp [results, Try.results14, go_sem]) rfl ⟨_, rfl, by rw [HG.out]; exact OwnSh.nil _ _, (by repeat (first | exact Below.refl _ _ | assumption | refine bel_drewN ?_ _ | refine bel_drew ?_ | refine bel_alloc ?_ _ | refine bel_set ?_ (by simp; omega) _ | refine bel_set ?_ (by simp) _ | refine bel_trans ?_ (by assumption)))⟩
  · have hzb := inB_true.1 hz
    obtain ⟨hz0, hz1⟩ := hzb
    obtain ⟨hnn, hru⟩ := ground_run z hz0 hz1
    have hbd := gi_all z hz0 hz1
    have HR := Lib.hid hru
    have HBD := Lib.hid hbd
    clear hru hbd hz
    have hz2 : ¬ z < 1 := by omega
    have hz3 : ¬ 118 < z := by omega
    obtain ⟨b, hb⟩ : ∃ b, w.heap.size = b := ⟨_, rfl⟩
    have hmk : (Instr.makeMap 49 none).run Try.prog w = .ok (.map (some b)) (w.alloc (.map #[] 0)) := by rw [← hb]; exact run_makeMap _ w
    go_enter Try.func14, Try.ntmps14
    go_wp2_with fail
    refine (impl_filling _).mono ?_
    rintro e w1 ⟨v, rfl, hown, hb1⟩
    have hown : OwnSh w1 (b + 1) v order := by
      rw [← hb]
      have : (w.alloc (.map #[] 0)).heap.size = w.heap.size + 1 := by simp
      rw [← this]
      exact hown
    have hL1 := (MapL.made w).below hb1
    have L1 := bel_trans (bel_alloc (Below.refl _ _) (.map #[] 0)) hb1
    rw [hb] at hL1
    have hol := order_length
    have ha := hown.at_
    obtain ⟨A, c, rfl, hlc, hcm, hc⟩ := ha
    unfold maxLen at hcm
    have hbz : w.heap.size ≤ b := by omega
    have hb1z : b < w1.heap.size := hL1.lt
    clear hc hb1
    have hord := order_bd
    rw [hol] at hlc
    obtain ⟨q, hq⟩ : ∃ q, q = order := ⟨_, rfl⟩
    have HQ := Lib.hid hq
    rw [hol]
    rw [← hq] at hown hol hord
    clear hq
    go_wp2_with fail
    go_loopg [0, 17] 19 (fun gk y i wr => ∃ k : Nat, gk = 19 - k ∧ k ≤ 19 ∧ i = .int .i64 k ∧ y = .int .i64 (giUp z k).2 ∧ MapL wr b (giUp z k).1 ∧ w1.grownBy wr (some b))
    case atStart => exact ⟨0, rfl, by omega, rfl, rfl, hL1, own_refl _ _⟩
    case round =>
      clear hL1
      obtain ⟨k, rfl, hk, rfl, rfl, hM, hgr⟩ := hrel
      obtain ⟨yb0, yb1, hlen⟩ := HBD.out k hk
      by_cases hlt : k < 19
      · have hp := (hown.kept hgr (own_far hown (by omega))).at_
        obtain ⟨A', c', e1, _, _, hc⟩ := hp
        injection e1 with e2 e3 e4
        subst e2
        obtain ⟨b', off, s, rfl, hbl, hbw, hs, c0, c1, c2⟩ := sh_cells hc (Below.refl _ _) (show k < q.length by omega)
        clear e3 e4 hc
        have hlt' : (k : Int) < 19 := by omega
        have hbds := hord k hlt
        have hss := giUp_step z k
        rw [← HQ.out] at hss
        rw [← hs] at hss hbds
        clear hs
        obtain ⟨s1, s2, s3, s4, s5, s6⟩ := hbds
        obtain ⟨W, hW⟩ : ∃ W, wr.alloc (Obj.cells #[Value.int IntKind.i64 s.1, Value.int IntKind.i64 s.2.1, Value.int IntKind.i64 s.2.2] 29) = W := ⟨_, rfl⟩
        have hMW : MapL W b (giUp z k).1 := hW ▸ hM.alloc _
        have hgW : w1.grownBy W (some b) := hW ▸ only_alloc hgr _
        have q0 : W.cell? ⟨wr.heap.size, 0, none⟩ = some (.int .i64 s.1) := hW ▸ (Own.new wr 29 #[.int .i64 s.1, .int .i64 s.2.1, .int .i64 s.2.2]).cell 0
        have q1 : W.cell? ⟨wr.heap.size, 1, none⟩ = some (.int .i64 s.2.1) := hW ▸ (Own.new wr 29 #[.int .i64 s.1, .int .i64 s.2.1, .int .i64 s.2.2]).cell 1
        have q2 : W.cell? ⟨wr.heap.size, 2, none⟩ = some (.int .i64 s.2.2) := hW ▸ (Own.new wr 29 #[.int .i64 s.1, .int .i64 s.2.1, .int .i64 s.2.2]).cell 2
        generalize (giUp z k).1 = F at *
        generalize (giUp z k).2 = y at *
        by_cases hm : s.2.2 < y
        · rw [show mn y s.2.2 = s.2.2 from if_pos hm, if_pos (by omega)] at hss
          have hmin : min y s.2.2 = s.2.2 := by omega
          have HT := Lib.hid hss
          obtain ⟨o2, k4, hM3⟩ := hMW.store shTy (q := (s.1, s.2.1)) (by unfold okKey; dsimp only; omega) s.2.2
          have hg3 : w1.grownBy (setBlock W b o2) (some b) := only_trans hgW (grown_set _ _ _)
          obtain ⟨W3, hW3⟩ : ∃ W3, setBlock W b o2 = W3 := ⟨_, rfl⟩
          rw [hW3] at k4 hM3 hg3
          have k4 : (Instr.mapUpdate 49 (.map (some b)) (.agg #[.int .i64 s.1, .int .i64 s.2.1]) (.int .i64 s.2.2)).run Try.prog W = .ok () W3 := k4
          rw [← hW] at k4
          have HM3 := Lib.hid hM3
          clear hss hW hW3 hM3 hMW
          go_wp2_with fail
          go_roundg (19 - (k + 1))
          case measure => omega
          case rel => exact ⟨k + 1, rfl, by omega, by go_num, by first | (rw [HT.out]; done) | (rw [HT.out]; simp), by rw [HT.out]; exact HM3.out, hg3⟩
        · by_cases hy : 0 < y
          · rw [show mn y s.2.2 = y from if_neg hm, if_pos hy] at hss
            have hmin : min y s.2.2 = y := by omega
            have HT := Lib.hid hss
            have hm2 : ¬ s.2.2 < y := hm
            obtain ⟨o2, k4, hM3⟩ := hMW.store shTy (q := (s.1, s.2.1)) (by unfold okKey; dsimp only; omega) y
            have hg3 : w1.grownBy (setBlock W b o2) (some b) := only_trans hgW (grown_set _ _ _)
            obtain ⟨W3, hW3⟩ : ∃ W3, setBlock W b o2 = W3 := ⟨_, rfl⟩
            rw [hW3] at k4 hM3 hg3
            have k4 : (Instr.mapUpdate 49 (.map (some b)) (.agg #[.int .i64 s.1, .int .i64 s.2.1]) (.int .i64 y)).run Try.prog W = .ok () W3 := k4
            rw [← hW] at k4
            have HM3 := Lib.hid hM3
            clear hss hW hW3 hM3 hMW
            go_wp2_with fail
            go_roundg (19 - (k + 1))
            case measure => omega
            case rel => exact ⟨k + 1, rfl, by omega, by go_num, by first | (rw [HT.out]; done) | (rw [HT.out]; simp), by rw [HT.out]; exact HM3.out, hg3⟩
          · rw [show mn y s.2.2 = y from if_neg hm, if_neg hy] at hss
            have hmin : min y s.2.2 = y := by omega
            have HT := Lib.hid hss
            have HM3 := Lib.hid hMW
            have HW := Lib.hid hW
            clear hss hW hMW
            go_wp2_with fail
            rw [HW.out]
            go_roundg (19 - (k + 1))
            case measure => omega
            case rel => exact ⟨k + 1, rfl, by omega, by go_num, by rw [HT.out], by rw [HT.out]; exact HM3.out, hgW⟩
      · obtain rfl : k = 19 := by omega
        have hnd := hM.nodup
        have hbl := bel_own L1 hbz hgr
        go_wp2_with fail
        refine (impl_conf b _ _ hM (by omega) hnn).mono ?_
        rintro e w3 ⟨v3, r, rfl, hown3, hb3, hgd, _⟩
        have hre := HR.out r hnd hgd
        subst hre
        go_wp2_with fail
        exact bodyPost_ret (v := .tuple #[v3, .bool true]) (by simp [results, Try.results14, go_sem]) rfl ⟨_, rfl, hown3.less hbl.size, bel_trans hbl hb3⟩

end Go.Proofs.Ytgemocbpfbdnmaa
