/- Moves of different electrons have any order: the law returns true for all bytes. No condition. -/
import Derived.Test.YtgemocbpfbdnmaaMoveLaw
import Derived.Test.YtgemocbpfbdnmaaDrawMove
import Derived.Test.YtgemocbpfbdnmaaSameSh
namespace Go.Proofs.Ytgemocbpfbdnmaa.fnMoveOther
open Go.ChangeShapes Go.WideShapes Go.ChangeAt Go.RowKit Go.Deep Go.Joins
set_option linter.unusedVariables false
set_option maxRecDepth 100000

set_option maxHeartbeats 4000000 in
theorem walk (a : Option Addr) (n0 c0 : Nat) (W : World) (hnc : n0 ≤ c0) (hcm : c0 ≤ maxLen) (hb : Bytes W W.heap.size a n0) :
    Calls Try.prog 9 #[.slice a n0 c0] W fun e W' => e = .returned (.bool true) ∧ Below W.heap.size W W' := by
  have hcm' := hcm
  unfold maxLen at hcm'
  by_cases hn : 1048576 < n0
  · go_enter Try.func9, Try.ntmps9
    go_wp2_with fail
    go_ret
    exact ⟨rfl, (by repeat (first | exact Below.refl _ _ | assumption | refine bel_drewN ?_ _ | refine bel_drew ?_ | refine bel_alloc ?_ _ | refine bel_set ?_ (by simp; omega) _ | refine bel_set ?_ (by simp) _ | refine bel_trans ?_ (by assumption)))⟩
  · go_enter Try.func9, Try.ntmps9
    go_wp2_with fail
    refine (draw_move _ _ _ _ hnc hcm hb).mono ?_
    rintro e w1 ⟨vc, c, n, l, k, m, rfl, hcl, hc1, hw1, hcb, hk0, hk1, hm0, hm1⟩
    clear hb
    have hok1 : cfgB c = true → okKey (n, l) := fun h => by have := hcb h; unfold okKey; dsimp only; omega
    have hok2 : okKey (k, m) := by unfold okKey; dsimp only; omega
    have HCB := Lib.hid hcb
    clear hcb
    go_wp2_with fail
    refine (impl_move _ c n l k m _ _ hc1 (by omega) hok1 hok2).mono ?_
    rintro e w2 ⟨v1, r, b, rfl, Q2, hb2, hR, hrl⟩
    have C2 := hc1.below hb2
    have L2 := bel_trans hw1 hb2
    clear hc1 hw1 hb2
    go_wp2_with fail
    refine (spec_move _ c n l k m _ _ C2 (by omega)).mono ?_
    rintro e w3 ⟨v0, r', b', rfl, P3, hb3, hR', _⟩
    obtain ⟨e1, e2⟩ := hR.uniq hR'
    subst e1 e2
    have C3 := C2.below hb3
    have L3 := bel_trans L2 hb3
    have Q3 := Q2.below hb3
    have HR := Lib.hid hR
    have HK1 := Lib.hid hok1
    have HK2 := Lib.hid hok2
    clear L2 hb3 Q2 C2 hR hR' hok1 hok2
    cases b
    · go_wp2_with fail
      refine (same_shells _ _ r _ Q3.at_ P3.at_).mono ?_
      rintro e w4 ⟨rfl, hb4⟩
      have P4 := P3.below hb4
      have Q4 := Q3.below hb4
      have L4 := bel_trans L3 hb4
      clear P3 Q3 L3 hb4
      go_wp2_with fail
      refine (same_shells _ _ r _ Q4.at_ P4.at_).mono ?_
      rintro e w5 ⟨rfl, hb5⟩
      go_wp2_with fail
      go_ret
      exact ⟨rfl, bel_trans L4 hb5⟩
    · go_wp2_with fail
      refine (same_shells _ _ r _ Q3.at_ P3.at_).mono ?_
      rintro e w4 ⟨rfl, hb4⟩
      have Q4 := Q3.below hb4
      have C4 := C3.below hb4
      have L4 := bel_trans L3 hb4
      clear P3 Q3 C3 L3 hb4
      obtain ⟨g1, g2, g3, g4, g5⟩ := move_yes HR.out
      have hp := cfg_pos g1
      have HCF := Lib.hid g5
      have HC1 := Lib.hid g1
      have HKN := Lib.hid (HK1.out g1)
      have hf := C4.some hp
      obtain ⟨gb, cap, hgb, hB', hlt', rfl, hcp', hcm2⟩ := hf
      have hj : c.length - 1 < c.length := by omega
      have hgs := getD_of hj
      have hsb := okSh_bd (cfg_sh g1 hj)
      generalize c.getD (c.length - 1) sh0 = s at *
      obtain ⟨r0, r1, r2⟩ := cells_own C4 rfl hgs
      have hks : okKey (s.1, s.2.1) := by unfold okKey; dsimp only; omega
      have HKS := Lib.hid hks
      have e1 : IntKind.i64.wrap ((c.length : Int) - 1) = ((c.length - 1 : Nat) : Int) := by rw [IntWalk.i64_in _ (by omega)]; omega
      have hj' : ((c.length - 1 : Nat) : Int) < (c.length : Int) := by omega
      have OB := Own.new w4 29 #[.int .i64 s.1, .int .i64 s.2.1, .int .i64 s.2.2]
      have QB := Q4.alloc (.cells #[.int .i64 s.1, .int .i64 s.2.1, .int .i64 s.2.2] 29)
      have CB := C4.alloc (.cells #[.int .i64 s.1, .int .i64 s.2.1, .int .i64 s.2.2] 29)
      have LB := bel_alloc L4 (.cells #[.int .i64 s.1, .int .i64 s.2.1, .int .i64 s.2.2] 29)
      clear g1 g2 g3 g4 g5 hks hsb hgs Q4 C4 hgb
      cases p1 : s.1 == n
      · have HN1 := Lib.hid (show (s.1, s.2.1) ≠ (n, l) from fun e => by have h := congrArg Prod.fst e; dsimp only at h; rw [h] at p1; simp at p1)
        cases p3 : s.1 == k
        · have HN2 := Lib.hid (show (s.1, s.2.1) ≠ (k, m) from fun e => by have h := congrArg Prod.fst e; dsimp only at h; rw [h] at p3; simp at p3)
          cases p5 : k == 7
          · have HN3 := Lib.hid (show (k, m) ≠ (7, 0) from fun e => by have h := congrArg Prod.fst e; dsimp only at h; rw [h] at p5; simp at p5)
            cases p7 : n == 7
            · have HN4 := Lib.hid (show (n, l) ≠ (7, 0) from fun e => by have h := congrArg Prod.fst e; dsimp only at h; rw [h] at p7; simp at p7)
              cases p9 : s.1 == 7
              · have HN5 := Lib.hid (show (s.1, s.2.1) ≠ (7, 0) from fun e => by have h := congrArg Prod.fst e; dsimp only at h; rw [h] at p9; cases p9)
                go_wp2_with fail
                refine (impl_move _ r s.1 s.2.1 7 0 _ _ QB (by omega) (fun _ => HKS.out) (by unfold okKey; decide)).mono ?_
                rintro e w5 ⟨v5, x, p, rfl, X5, hb5, hX, _⟩
                have O5 := OB.below hb5
                have b0 := O5.cell 0
                have b1 := O5.cell 1
                have bl := O5.lt
                have C5 := CB.below hb5
                have L5 := bel_trans LB hb5
                have HX := Lib.hid hX
                clear QB CB OB LB hb5 hX
                go_wp2_with fail
                refine (impl_move _ c s.1 s.2.1 7 0 _ _ C5 (by omega) (fun _ => HKS.out) (by unfold okKey; decide)).mono ?_
                rintro e w6 ⟨v6, y, q, rfl, Y6, hb6, hY, hyl⟩
                have X6 := X5.below hb6
                have L6 := bel_trans L5 hb6
                have HY := Lib.hid hY
                clear O5 b0 b1 bl C5 L5 hb6 hY X5
                go_wp2_with fail
                refine (impl_move _ y n l k m _ _ Y6 (by omega) (fun _ => HKN.out) HK2.out).mono ?_
                rintro e w7 ⟨v7, z, t, rfl, Z7, hb7, hZ, _⟩
                have X7 := X6.below hb7
                have L7 := bel_trans L6 hb7
                obtain ⟨f1, f2⟩ := move_other HR.out HN1.out HN2.out HN3.out HN4.out HN5.out HX.out HY.out hZ
                clear X6 L6 hb7 hZ
                cases p <;> cases q <;> cases t
                all_goals (first | (exfalso; simp at f1; done) | skip)
                all_goals (try obtain rfl := f2 rfl)
                all_goals clear f1 f2
                all_goals go_wp2_with fail
                all_goals first | (go_ret; exact ⟨rfl, L7⟩) | (refine (same_shells _ _ _ _ X7.at_ Z7.at_).mono ?_; rintro e w8 ⟨rfl, hb8⟩; go_wp2_with fail; go_ret; exact ⟨rfl, bel_trans L7 hb8⟩)
              · go_wp2_with fail
                refine (impl_cfg _ r _ QB.at_).mono ?_
                rintro e w5 ⟨rfl, hb5⟩
                rw [HCF.out]
                go_wp2_with fail
                go_ret
                exact ⟨rfl, bel_trans LB hb5⟩
            · cases p8 : l == 0
              · have HN4 := Lib.hid (show (n, l) ≠ (7, 0) from fun e => by have h := congrArg Prod.snd e; dsimp only at h; rw [h] at p8; simp at p8)
                cases p9 : s.1 == 7
                · have HN5 := Lib.hid (show (s.1, s.2.1) ≠ (7, 0) from fun e => by have h := congrArg Prod.fst e; dsimp only at h; rw [h] at p9; cases p9)
                  go_wp2_with fail
                  refine (impl_move _ r s.1 s.2.1 7 0 _ _ QB (by omega) (fun _ => HKS.out) (by unfold okKey; decide)).mono ?_
                  rintro e w5 ⟨v5, x, p, rfl, X5, hb5, hX, _⟩
                  have O5 := OB.below hb5
                  have b0 := O5.cell 0
                  have b1 := O5.cell 1
                  have bl := O5.lt
                  have C5 := CB.below hb5
                  have L5 := bel_trans LB hb5
                  have HX := Lib.hid hX
                  clear QB CB OB LB hb5 hX
                  go_wp2_with fail
                  refine (impl_move _ c s.1 s.2.1 7 0 _ _ C5 (by omega) (fun _ => HKS.out) (by unfold okKey; decide)).mono ?_
                  rintro e w6 ⟨v6, y, q, rfl, Y6, hb6, hY, hyl⟩
                  have X6 := X5.below hb6
                  have L6 := bel_trans L5 hb6
                  have HY := Lib.hid hY
                  clear O5 b0 b1 bl C5 L5 hb6 hY X5
                  go_wp2_with fail
                  refine (impl_move _ y n l k m _ _ Y6 (by omega) (fun _ => HKN.out) HK2.out).mono ?_
                  rintro e w7 ⟨v7, z, t, rfl, Z7, hb7, hZ, _⟩
                  have X7 := X6.below hb7
                  have L7 := bel_trans L6 hb7
                  obtain ⟨f1, f2⟩ := move_other HR.out HN1.out HN2.out HN3.out HN4.out HN5.out HX.out HY.out hZ
                  clear X6 L6 hb7 hZ
                  cases p <;> cases q <;> cases t
                  all_goals (first | (exfalso; simp at f1; done) | skip)
                  all_goals (try obtain rfl := f2 rfl)
                  all_goals clear f1 f2
                  all_goals go_wp2_with fail
                  all_goals first | (go_ret; exact ⟨rfl, L7⟩) | (refine (same_shells _ _ _ _ X7.at_ Z7.at_).mono ?_; rintro e w8 ⟨rfl, hb8⟩; go_wp2_with fail; go_ret; exact ⟨rfl, bel_trans L7 hb8⟩)
                · go_wp2_with fail
                  refine (impl_cfg _ r _ QB.at_).mono ?_
                  rintro e w5 ⟨rfl, hb5⟩
                  rw [HCF.out]
                  go_wp2_with fail
                  go_ret
                  exact ⟨rfl, bel_trans LB hb5⟩
              · go_wp2_with fail
                refine (impl_cfg _ r _ QB.at_).mono ?_
                rintro e w5 ⟨rfl, hb5⟩
                rw [HCF.out]
                go_wp2_with fail
                go_ret
                exact ⟨rfl, bel_trans LB hb5⟩
          · cases p6 : m == 0
            · have HN3 := Lib.hid (show (k, m) ≠ (7, 0) from fun e => by have h := congrArg Prod.snd e; dsimp only at h; rw [h] at p6; simp at p6)
              cases p7 : n == 7
              · have HN4 := Lib.hid (show (n, l) ≠ (7, 0) from fun e => by have h := congrArg Prod.fst e; dsimp only at h; rw [h] at p7; simp at p7)
                cases p9 : s.1 == 7
                · have HN5 := Lib.hid (show (s.1, s.2.1) ≠ (7, 0) from fun e => by have h := congrArg Prod.fst e; dsimp only at h; rw [h] at p9; cases p9)
                  go_wp2_with fail
                  refine (impl_move _ r s.1 s.2.1 7 0 _ _ QB (by omega) (fun _ => HKS.out) (by unfold okKey; decide)).mono ?_
                  rintro e w5 ⟨v5, x, p, rfl, X5, hb5, hX, _⟩
                  have O5 := OB.below hb5
                  have b0 := O5.cell 0
                  have b1 := O5.cell 1
                  have bl := O5.lt
                  have C5 := CB.below hb5
                  have L5 := bel_trans LB hb5
                  have HX := Lib.hid hX
                  clear QB CB OB LB hb5 hX
                  go_wp2_with fail
                  refine (impl_move _ c s.1 s.2.1 7 0 _ _ C5 (by omega) (fun _ => HKS.out) (by unfold okKey; decide)).mono ?_
                  rintro e w6 ⟨v6, y, q, rfl, Y6, hb6, hY, hyl⟩
                  have X6 := X5.below hb6
                  have L6 := bel_trans L5 hb6
                  have HY := Lib.hid hY
                  clear O5 b0 b1 bl C5 L5 hb6 hY X5
                  go_wp2_with fail
                  refine (impl_move _ y n l k m _ _ Y6 (by omega) (fun _ => HKN.out) HK2.out).mono ?_
                  rintro e w7 ⟨v7, z, t, rfl, Z7, hb7, hZ, _⟩
                  have X7 := X6.below hb7
                  have L7 := bel_trans L6 hb7
                  obtain ⟨f1, f2⟩ := move_other HR.out HN1.out HN2.out HN3.out HN4.out HN5.out HX.out HY.out hZ
                  clear X6 L6 hb7 hZ
                  cases p <;> cases q <;> cases t
                  all_goals (first | (exfalso; simp at f1; done) | skip)
                  all_goals (try obtain rfl := f2 rfl)
                  all_goals clear f1 f2
                  all_goals go_wp2_with fail
                  all_goals first | (go_ret; exact ⟨rfl, L7⟩) | (refine (same_shells _ _ _ _ X7.at_ Z7.at_).mono ?_; rintro e w8 ⟨rfl, hb8⟩; go_wp2_with fail; go_ret; exact ⟨rfl, bel_trans L7 hb8⟩)
                · go_wp2_with fail
                  refine (impl_cfg _ r _ QB.at_).mono ?_
                  rintro e w5 ⟨rfl, hb5⟩
                  rw [HCF.out]
                  go_wp2_with fail
                  go_ret
                  exact ⟨rfl, bel_trans LB hb5⟩
              · cases p8 : l == 0
                · have HN4 := Lib.hid (show (n, l) ≠ (7, 0) from fun e => by have h := congrArg Prod.snd e; dsimp only at h; rw [h] at p8; simp at p8)
                  cases p9 : s.1 == 7
                  · have HN5 := Lib.hid (show (s.1, s.2.1) ≠ (7, 0) from fun e => by have h := congrArg Prod.fst e; dsimp only at h; rw [h] at p9; cases p9)
                    go_wp2_with fail
                    refine (impl_move _ r s.1 s.2.1 7 0 _ _ QB (by omega) (fun _ => HKS.out) (by unfold okKey; decide)).mono ?_
                    rintro e w5 ⟨v5, x, p, rfl, X5, hb5, hX, _⟩
                    have O5 := OB.below hb5
                    have b0 := O5.cell 0
                    have b1 := O5.cell 1
                    have bl := O5.lt
                    have C5 := CB.below hb5
                    have L5 := bel_trans LB hb5
                    have HX := Lib.hid hX
                    clear QB CB OB LB hb5 hX
                    go_wp2_with fail
                    refine (impl_move _ c s.1 s.2.1 7 0 _ _ C5 (by omega) (fun _ => HKS.out) (by unfold okKey; decide)).mono ?_
                    rintro e w6 ⟨v6, y, q, rfl, Y6, hb6, hY, hyl⟩
                    have X6 := X5.below hb6
                    have L6 := bel_trans L5 hb6
                    have HY := Lib.hid hY
                    clear O5 b0 b1 bl C5 L5 hb6 hY X5
                    go_wp2_with fail
                    refine (impl_move _ y n l k m _ _ Y6 (by omega) (fun _ => HKN.out) HK2.out).mono ?_
                    rintro e w7 ⟨v7, z, t, rfl, Z7, hb7, hZ, _⟩
                    have X7 := X6.below hb7
                    have L7 := bel_trans L6 hb7
                    obtain ⟨f1, f2⟩ := move_other HR.out HN1.out HN2.out HN3.out HN4.out HN5.out HX.out HY.out hZ
                    clear X6 L6 hb7 hZ
                    cases p <;> cases q <;> cases t
                    all_goals (first | (exfalso; simp at f1; done) | skip)
                    all_goals (try obtain rfl := f2 rfl)
                    all_goals clear f1 f2
                    all_goals go_wp2_with fail
                    all_goals first | (go_ret; exact ⟨rfl, L7⟩) | (refine (same_shells _ _ _ _ X7.at_ Z7.at_).mono ?_; rintro e w8 ⟨rfl, hb8⟩; go_wp2_with fail; go_ret; exact ⟨rfl, bel_trans L7 hb8⟩)
                  · go_wp2_with fail
                    refine (impl_cfg _ r _ QB.at_).mono ?_
                    rintro e w5 ⟨rfl, hb5⟩
                    rw [HCF.out]
                    go_wp2_with fail
                    go_ret
                    exact ⟨rfl, bel_trans LB hb5⟩
                · go_wp2_with fail
                  refine (impl_cfg _ r _ QB.at_).mono ?_
                  rintro e w5 ⟨rfl, hb5⟩
                  rw [HCF.out]
                  go_wp2_with fail
                  go_ret
                  exact ⟨rfl, bel_trans LB hb5⟩
            · go_wp2_with fail
              refine (impl_cfg _ r _ QB.at_).mono ?_
              rintro e w5 ⟨rfl, hb5⟩
              rw [HCF.out]
              go_wp2_with fail
              go_ret
              exact ⟨rfl, bel_trans LB hb5⟩
        · cases p4 : s.2.1 == m
          · have HN2 := Lib.hid (show (s.1, s.2.1) ≠ (k, m) from fun e => by have h := congrArg Prod.snd e; dsimp only at h; rw [h] at p4; simp at p4)
            cases p5 : k == 7
            · have HN3 := Lib.hid (show (k, m) ≠ (7, 0) from fun e => by have h := congrArg Prod.fst e; dsimp only at h; rw [h] at p5; simp at p5)
              cases p7 : n == 7
              · have HN4 := Lib.hid (show (n, l) ≠ (7, 0) from fun e => by have h := congrArg Prod.fst e; dsimp only at h; rw [h] at p7; simp at p7)
                cases p9 : s.1 == 7
                · have HN5 := Lib.hid (show (s.1, s.2.1) ≠ (7, 0) from fun e => by have h := congrArg Prod.fst e; dsimp only at h; rw [h] at p9; cases p9)
                  go_wp2_with fail
                  refine (impl_move _ r s.1 s.2.1 7 0 _ _ QB (by omega) (fun _ => HKS.out) (by unfold okKey; decide)).mono ?_
                  rintro e w5 ⟨v5, x, p, rfl, X5, hb5, hX, _⟩
                  have O5 := OB.below hb5
                  have b0 := O5.cell 0
                  have b1 := O5.cell 1
                  have bl := O5.lt
                  have C5 := CB.below hb5
                  have L5 := bel_trans LB hb5
                  have HX := Lib.hid hX
                  clear QB CB OB LB hb5 hX
                  go_wp2_with fail
                  refine (impl_move _ c s.1 s.2.1 7 0 _ _ C5 (by omega) (fun _ => HKS.out) (by unfold okKey; decide)).mono ?_
                  rintro e w6 ⟨v6, y, q, rfl, Y6, hb6, hY, hyl⟩
                  have X6 := X5.below hb6
                  have L6 := bel_trans L5 hb6
                  have HY := Lib.hid hY
                  clear O5 b0 b1 bl C5 L5 hb6 hY X5
                  go_wp2_with fail
                  refine (impl_move _ y n l k m _ _ Y6 (by omega) (fun _ => HKN.out) HK2.out).mono ?_
                  rintro e w7 ⟨v7, z, t, rfl, Z7, hb7, hZ, _⟩
                  have X7 := X6.below hb7
                  have L7 := bel_trans L6 hb7
                  obtain ⟨f1, f2⟩ := move_other HR.out HN1.out HN2.out HN3.out HN4.out HN5.out HX.out HY.out hZ
                  clear X6 L6 hb7 hZ
                  cases p <;> cases q <;> cases t
                  all_goals (first | (exfalso; simp at f1; done) | skip)
                  all_goals (try obtain rfl := f2 rfl)
                  all_goals clear f1 f2
                  all_goals go_wp2_with fail
                  all_goals first | (go_ret; exact ⟨rfl, L7⟩) | (refine (same_shells _ _ _ _ X7.at_ Z7.at_).mono ?_; rintro e w8 ⟨rfl, hb8⟩; go_wp2_with fail; go_ret; exact ⟨rfl, bel_trans L7 hb8⟩)
                · go_wp2_with fail
                  refine (impl_cfg _ r _ QB.at_).mono ?_
                  rintro e w5 ⟨rfl, hb5⟩
                  rw [HCF.out]
                  go_wp2_with fail
                  go_ret
                  exact ⟨rfl, bel_trans LB hb5⟩
              · cases p8 : l == 0
                · have HN4 := Lib.hid (show (n, l) ≠ (7, 0) from fun e => by have h := congrArg Prod.snd e; dsimp only at h; rw [h] at p8; simp at p8)
                  cases p9 : s.1 == 7
                  · have HN5 := Lib.hid (show (s.1, s.2.1) ≠ (7, 0) from fun e => by have h := congrArg Prod.fst e; dsimp only at h; rw [h] at p9; cases p9)
                    go_wp2_with fail
                    refine (impl_move _ r s.1 s.2.1 7 0 _ _ QB (by omega) (fun _ => HKS.out) (by unfold okKey; decide)).mono ?_
                    rintro e w5 ⟨v5, x, p, rfl, X5, hb5, hX, _⟩
                    have O5 := OB.below hb5
                    have b0 := O5.cell 0
                    have b1 := O5.cell 1
                    have bl := O5.lt
                    have C5 := CB.below hb5
                    have L5 := bel_trans LB hb5
                    have HX := Lib.hid hX
                    clear QB CB OB LB hb5 hX
                    go_wp2_with fail
                    refine (impl_move _ c s.1 s.2.1 7 0 _ _ C5 (by omega) (fun _ => HKS.out) (by unfold okKey; decide)).mono ?_
                    rintro e w6 ⟨v6, y, q, rfl, Y6, hb6, hY, hyl⟩
                    have X6 := X5.below hb6
                    have L6 := bel_trans L5 hb6
                    have HY := Lib.hid hY
                    clear O5 b0 b1 bl C5 L5 hb6 hY X5
                    go_wp2_with fail
                    refine (impl_move _ y n l k m _ _ Y6 (by omega) (fun _ => HKN.out) HK2.out).mono ?_
                    rintro e w7 ⟨v7, z, t, rfl, Z7, hb7, hZ, _⟩
                    have X7 := X6.below hb7
                    have L7 := bel_trans L6 hb7
                    obtain ⟨f1, f2⟩ := move_other HR.out HN1.out HN2.out HN3.out HN4.out HN5.out HX.out HY.out hZ
                    clear X6 L6 hb7 hZ
                    cases p <;> cases q <;> cases t
                    all_goals (first | (exfalso; simp at f1; done) | skip)
                    all_goals (try obtain rfl := f2 rfl)
                    all_goals clear f1 f2
                    all_goals go_wp2_with fail
                    all_goals first | (go_ret; exact ⟨rfl, L7⟩) | (refine (same_shells _ _ _ _ X7.at_ Z7.at_).mono ?_; rintro e w8 ⟨rfl, hb8⟩; go_wp2_with fail; go_ret; exact ⟨rfl, bel_trans L7 hb8⟩)
                  · go_wp2_with fail
                    refine (impl_cfg _ r _ QB.at_).mono ?_
                    rintro e w5 ⟨rfl, hb5⟩
                    rw [HCF.out]
                    go_wp2_with fail
                    go_ret
                    exact ⟨rfl, bel_trans LB hb5⟩
                · go_wp2_with fail
                  refine (impl_cfg _ r _ QB.at_).mono ?_
                  rintro e w5 ⟨rfl, hb5⟩
                  rw [HCF.out]
                  go_wp2_with fail
                  go_ret
                  exact ⟨rfl, bel_trans LB hb5⟩
            · cases p6 : m == 0
              · have HN3 := Lib.hid (show (k, m) ≠ (7, 0) from fun e => by have h := congrArg Prod.snd e; dsimp only at h; rw [h] at p6; simp at p6)
                cases p7 : n == 7
                · have HN4 := Lib.hid (show (n, l) ≠ (7, 0) from fun e => by have h := congrArg Prod.fst e; dsimp only at h; rw [h] at p7; simp at p7)
                  cases p9 : s.1 == 7
                  · have HN5 := Lib.hid (show (s.1, s.2.1) ≠ (7, 0) from fun e => by have h := congrArg Prod.fst e; dsimp only at h; rw [h] at p9; cases p9)
                    go_wp2_with fail
                    refine (impl_move _ r s.1 s.2.1 7 0 _ _ QB (by omega) (fun _ => HKS.out) (by unfold okKey; decide)).mono ?_
                    rintro e w5 ⟨v5, x, p, rfl, X5, hb5, hX, _⟩
                    have O5 := OB.below hb5
                    have b0 := O5.cell 0
                    have b1 := O5.cell 1
                    have bl := O5.lt
                    have C5 := CB.below hb5
                    have L5 := bel_trans LB hb5
                    have HX := Lib.hid hX
                    clear QB CB OB LB hb5 hX
                    go_wp2_with fail
                    refine (impl_move _ c s.1 s.2.1 7 0 _ _ C5 (by omega) (fun _ => HKS.out) (by unfold okKey; decide)).mono ?_
                    rintro e w6 ⟨v6, y, q, rfl, Y6, hb6, hY, hyl⟩
                    have X6 := X5.below hb6
                    have L6 := bel_trans L5 hb6
                    have HY := Lib.hid hY
                    clear O5 b0 b1 bl C5 L5 hb6 hY X5
                    go_wp2_with fail
                    refine (impl_move _ y n l k m _ _ Y6 (by omega) (fun _ => HKN.out) HK2.out).mono ?_
                    rintro e w7 ⟨v7, z, t, rfl, Z7, hb7, hZ, _⟩
                    have X7 := X6.below hb7
                    have L7 := bel_trans L6 hb7
                    obtain ⟨f1, f2⟩ := move_other HR.out HN1.out HN2.out HN3.out HN4.out HN5.out HX.out HY.out hZ
                    clear X6 L6 hb7 hZ
                    cases p <;> cases q <;> cases t
                    all_goals (first | (exfalso; simp at f1; done) | skip)
                    all_goals (try obtain rfl := f2 rfl)
                    all_goals clear f1 f2
                    all_goals go_wp2_with fail
                    all_goals first | (go_ret; exact ⟨rfl, L7⟩) | (refine (same_shells _ _ _ _ X7.at_ Z7.at_).mono ?_; rintro e w8 ⟨rfl, hb8⟩; go_wp2_with fail; go_ret; exact ⟨rfl, bel_trans L7 hb8⟩)
                  · go_wp2_with fail
                    refine (impl_cfg _ r _ QB.at_).mono ?_
                    rintro e w5 ⟨rfl, hb5⟩
                    rw [HCF.out]
                    go_wp2_with fail
                    go_ret
                    exact ⟨rfl, bel_trans LB hb5⟩
                · cases p8 : l == 0
                  · have HN4 := Lib.hid (show (n, l) ≠ (7, 0) from fun e => by have h := congrArg Prod.snd e; dsimp only at h; rw [h] at p8; simp at p8)
                    cases p9 : s.1 == 7
                    · have HN5 := Lib.hid (show (s.1, s.2.1) ≠ (7, 0) from fun e => by have h := congrArg Prod.fst e; dsimp only at h; rw [h] at p9; cases p9)
                      go_wp2_with fail
                      refine (impl_move _ r s.1 s.2.1 7 0 _ _ QB (by omega) (fun _ => HKS.out) (by unfold okKey; decide)).mono ?_
                      rintro e w5 ⟨v5, x, p, rfl, X5, hb5, hX, _⟩
                      have O5 := OB.below hb5
                      have b0 := O5.cell 0
                      have b1 := O5.cell 1
                      have bl := O5.lt
                      have C5 := CB.below hb5
                      have L5 := bel_trans LB hb5
                      have HX := Lib.hid hX
                      clear QB CB OB LB hb5 hX
                      go_wp2_with fail
                      refine (impl_move _ c s.1 s.2.1 7 0 _ _ C5 (by omega) (fun _ => HKS.out) (by unfold okKey; decide)).mono ?_
                      rintro e w6 ⟨v6, y, q, rfl, Y6, hb6, hY, hyl⟩
                      have X6 := X5.below hb6
                      have L6 := bel_trans L5 hb6
                      have HY := Lib.hid hY
                      clear O5 b0 b1 bl C5 L5 hb6 hY X5
                      go_wp2_with fail
                      refine (impl_move _ y n l k m _ _ Y6 (by omega) (fun _ => HKN.out) HK2.out).mono ?_
                      rintro e w7 ⟨v7, z, t, rfl, Z7, hb7, hZ, _⟩
                      have X7 := X6.below hb7
                      have L7 := bel_trans L6 hb7
                      obtain ⟨f1, f2⟩ := move_other HR.out HN1.out HN2.out HN3.out HN4.out HN5.out HX.out HY.out hZ
                      clear X6 L6 hb7 hZ
                      cases p <;> cases q <;> cases t
                      all_goals (first | (exfalso; simp at f1; done) | skip)
                      all_goals (try obtain rfl := f2 rfl)
                      all_goals clear f1 f2
                      all_goals go_wp2_with fail
                      all_goals first | (go_ret; exact ⟨rfl, L7⟩) | (refine (same_shells _ _ _ _ X7.at_ Z7.at_).mono ?_; rintro e w8 ⟨rfl, hb8⟩; go_wp2_with fail; go_ret; exact ⟨rfl, bel_trans L7 hb8⟩)
                    · go_wp2_with fail
                      refine (impl_cfg _ r _ QB.at_).mono ?_
                      rintro e w5 ⟨rfl, hb5⟩
                      rw [HCF.out]
                      go_wp2_with fail
                      go_ret
                      exact ⟨rfl, bel_trans LB hb5⟩
                  · go_wp2_with fail
                    refine (impl_cfg _ r _ QB.at_).mono ?_
                    rintro e w5 ⟨rfl, hb5⟩
                    rw [HCF.out]
                    go_wp2_with fail
                    go_ret
                    exact ⟨rfl, bel_trans LB hb5⟩
              · go_wp2_with fail
                refine (impl_cfg _ r _ QB.at_).mono ?_
                rintro e w5 ⟨rfl, hb5⟩
                rw [HCF.out]
                go_wp2_with fail
                go_ret
                exact ⟨rfl, bel_trans LB hb5⟩
          · go_wp2_with fail
            refine (impl_cfg _ r _ QB.at_).mono ?_
            rintro e w5 ⟨rfl, hb5⟩
            rw [HCF.out]
            go_wp2_with fail
            go_ret
            exact ⟨rfl, bel_trans LB hb5⟩
      · cases p2 : s.2.1 == l
        · have HN1 := Lib.hid (show (s.1, s.2.1) ≠ (n, l) from fun e => by have h := congrArg Prod.snd e; dsimp only at h; rw [h] at p2; simp at p2)
          cases p3 : s.1 == k
          · have HN2 := Lib.hid (show (s.1, s.2.1) ≠ (k, m) from fun e => by have h := congrArg Prod.fst e; dsimp only at h; rw [h] at p3; simp at p3)
            cases p5 : k == 7
            · have HN3 := Lib.hid (show (k, m) ≠ (7, 0) from fun e => by have h := congrArg Prod.fst e; dsimp only at h; rw [h] at p5; simp at p5)
              cases p7 : n == 7
              · have HN4 := Lib.hid (show (n, l) ≠ (7, 0) from fun e => by have h := congrArg Prod.fst e; dsimp only at h; rw [h] at p7; simp at p7)
                cases p9 : s.1 == 7
                · have HN5 := Lib.hid (show (s.1, s.2.1) ≠ (7, 0) from fun e => by have h := congrArg Prod.fst e; dsimp only at h; rw [h] at p9; cases p9)
                  go_wp2_with fail
                  refine (impl_move _ r s.1 s.2.1 7 0 _ _ QB (by omega) (fun _ => HKS.out) (by unfold okKey; decide)).mono ?_
                  rintro e w5 ⟨v5, x, p, rfl, X5, hb5, hX, _⟩
                  have O5 := OB.below hb5
                  have b0 := O5.cell 0
                  have b1 := O5.cell 1
                  have bl := O5.lt
                  have C5 := CB.below hb5
                  have L5 := bel_trans LB hb5
                  have HX := Lib.hid hX
                  clear QB CB OB LB hb5 hX
                  go_wp2_with fail
                  refine (impl_move _ c s.1 s.2.1 7 0 _ _ C5 (by omega) (fun _ => HKS.out) (by unfold okKey; decide)).mono ?_
                  rintro e w6 ⟨v6, y, q, rfl, Y6, hb6, hY, hyl⟩
                  have X6 := X5.below hb6
                  have L6 := bel_trans L5 hb6
                  have HY := Lib.hid hY
                  clear O5 b0 b1 bl C5 L5 hb6 hY X5
                  go_wp2_with fail
                  refine (impl_move _ y n l k m _ _ Y6 (by omega) (fun _ => HKN.out) HK2.out).mono ?_
                  rintro e w7 ⟨v7, z, t, rfl, Z7, hb7, hZ, _⟩
                  have X7 := X6.below hb7
                  have L7 := bel_trans L6 hb7
                  obtain ⟨f1, f2⟩ := move_other HR.out HN1.out HN2.out HN3.out HN4.out HN5.out HX.out HY.out hZ
                  clear X6 L6 hb7 hZ
                  cases p <;> cases q <;> cases t
                  all_goals (first | (exfalso; simp at f1; done) | skip)
                  all_goals (try obtain rfl := f2 rfl)
                  all_goals clear f1 f2
                  all_goals go_wp2_with fail
                  all_goals first | (go_ret; exact ⟨rfl, L7⟩) | (refine (same_shells _ _ _ _ X7.at_ Z7.at_).mono ?_; rintro e w8 ⟨rfl, hb8⟩; go_wp2_with fail; go_ret; exact ⟨rfl, bel_trans L7 hb8⟩)
                · go_wp2_with fail
                  refine (impl_cfg _ r _ QB.at_).mono ?_
                  rintro e w5 ⟨rfl, hb5⟩
                  rw [HCF.out]
                  go_wp2_with fail
                  go_ret
                  exact ⟨rfl, bel_trans LB hb5⟩
              · cases p8 : l == 0
                · have HN4 := Lib.hid (show (n, l) ≠ (7, 0) from fun e => by have h := congrArg Prod.snd e; dsimp only at h; rw [h] at p8; simp at p8)
                  cases p9 : s.1 == 7
                  · have HN5 := Lib.hid (show (s.1, s.2.1) ≠ (7, 0) from fun e => by have h := congrArg Prod.fst e; dsimp only at h; rw [h] at p9; cases p9)
                    go_wp2_with fail
                    refine (impl_move _ r s.1 s.2.1 7 0 _ _ QB (by omega) (fun _ => HKS.out) (by unfold okKey; decide)).mono ?_
                    rintro e w5 ⟨v5, x, p, rfl, X5, hb5, hX, _⟩
                    have O5 := OB.below hb5
                    have b0 := O5.cell 0
                    have b1 := O5.cell 1
                    have bl := O5.lt
                    have C5 := CB.below hb5
                    have L5 := bel_trans LB hb5
                    have HX := Lib.hid hX
                    clear QB CB OB LB hb5 hX
                    go_wp2_with fail
                    refine (impl_move _ c s.1 s.2.1 7 0 _ _ C5 (by omega) (fun _ => HKS.out) (by unfold okKey; decide)).mono ?_
                    rintro e w6 ⟨v6, y, q, rfl, Y6, hb6, hY, hyl⟩
                    have X6 := X5.below hb6
                    have L6 := bel_trans L5 hb6
                    have HY := Lib.hid hY
                    clear O5 b0 b1 bl C5 L5 hb6 hY X5
                    go_wp2_with fail
                    refine (impl_move _ y n l k m _ _ Y6 (by omega) (fun _ => HKN.out) HK2.out).mono ?_
                    rintro e w7 ⟨v7, z, t, rfl, Z7, hb7, hZ, _⟩
                    have X7 := X6.below hb7
                    have L7 := bel_trans L6 hb7
                    obtain ⟨f1, f2⟩ := move_other HR.out HN1.out HN2.out HN3.out HN4.out HN5.out HX.out HY.out hZ
                    clear X6 L6 hb7 hZ
                    cases p <;> cases q <;> cases t
                    all_goals (first | (exfalso; simp at f1; done) | skip)
                    all_goals (try obtain rfl := f2 rfl)
                    all_goals clear f1 f2
                    all_goals go_wp2_with fail
                    all_goals first | (go_ret; exact ⟨rfl, L7⟩) | (refine (same_shells _ _ _ _ X7.at_ Z7.at_).mono ?_; rintro e w8 ⟨rfl, hb8⟩; go_wp2_with fail; go_ret; exact ⟨rfl, bel_trans L7 hb8⟩)
                  · go_wp2_with fail
                    refine (impl_cfg _ r _ QB.at_).mono ?_
                    rintro e w5 ⟨rfl, hb5⟩
                    rw [HCF.out]
                    go_wp2_with fail
                    go_ret
                    exact ⟨rfl, bel_trans LB hb5⟩
                · go_wp2_with fail
                  refine (impl_cfg _ r _ QB.at_).mono ?_
                  rintro e w5 ⟨rfl, hb5⟩
                  rw [HCF.out]
                  go_wp2_with fail
                  go_ret
                  exact ⟨rfl, bel_trans LB hb5⟩
            · cases p6 : m == 0
              · have HN3 := Lib.hid (show (k, m) ≠ (7, 0) from fun e => by have h := congrArg Prod.snd e; dsimp only at h; rw [h] at p6; simp at p6)
                cases p7 : n == 7
                · have HN4 := Lib.hid (show (n, l) ≠ (7, 0) from fun e => by have h := congrArg Prod.fst e; dsimp only at h; rw [h] at p7; simp at p7)
                  cases p9 : s.1 == 7
                  · have HN5 := Lib.hid (show (s.1, s.2.1) ≠ (7, 0) from fun e => by have h := congrArg Prod.fst e; dsimp only at h; rw [h] at p9; cases p9)
                    go_wp2_with fail
                    refine (impl_move _ r s.1 s.2.1 7 0 _ _ QB (by omega) (fun _ => HKS.out) (by unfold okKey; decide)).mono ?_
                    rintro e w5 ⟨v5, x, p, rfl, X5, hb5, hX, _⟩
                    have O5 := OB.below hb5
                    have b0 := O5.cell 0
                    have b1 := O5.cell 1
                    have bl := O5.lt
                    have C5 := CB.below hb5
                    have L5 := bel_trans LB hb5
                    have HX := Lib.hid hX
                    clear QB CB OB LB hb5 hX
                    go_wp2_with fail
                    refine (impl_move _ c s.1 s.2.1 7 0 _ _ C5 (by omega) (fun _ => HKS.out) (by unfold okKey; decide)).mono ?_
                    rintro e w6 ⟨v6, y, q, rfl, Y6, hb6, hY, hyl⟩
                    have X6 := X5.below hb6
                    have L6 := bel_trans L5 hb6
                    have HY := Lib.hid hY
                    clear O5 b0 b1 bl C5 L5 hb6 hY X5
                    go_wp2_with fail
                    refine (impl_move _ y n l k m _ _ Y6 (by omega) (fun _ => HKN.out) HK2.out).mono ?_
                    rintro e w7 ⟨v7, z, t, rfl, Z7, hb7, hZ, _⟩
                    have X7 := X6.below hb7
                    have L7 := bel_trans L6 hb7
                    obtain ⟨f1, f2⟩ := move_other HR.out HN1.out HN2.out HN3.out HN4.out HN5.out HX.out HY.out hZ
                    clear X6 L6 hb7 hZ
                    cases p <;> cases q <;> cases t
                    all_goals (first | (exfalso; simp at f1; done) | skip)
                    all_goals (try obtain rfl := f2 rfl)
                    all_goals clear f1 f2
                    all_goals go_wp2_with fail
                    all_goals first | (go_ret; exact ⟨rfl, L7⟩) | (refine (same_shells _ _ _ _ X7.at_ Z7.at_).mono ?_; rintro e w8 ⟨rfl, hb8⟩; go_wp2_with fail; go_ret; exact ⟨rfl, bel_trans L7 hb8⟩)
                  · go_wp2_with fail
                    refine (impl_cfg _ r _ QB.at_).mono ?_
                    rintro e w5 ⟨rfl, hb5⟩
                    rw [HCF.out]
                    go_wp2_with fail
                    go_ret
                    exact ⟨rfl, bel_trans LB hb5⟩
                · cases p8 : l == 0
                  · have HN4 := Lib.hid (show (n, l) ≠ (7, 0) from fun e => by have h := congrArg Prod.snd e; dsimp only at h; rw [h] at p8; simp at p8)
                    cases p9 : s.1 == 7
                    · have HN5 := Lib.hid (show (s.1, s.2.1) ≠ (7, 0) from fun e => by have h := congrArg Prod.fst e; dsimp only at h; rw [h] at p9; cases p9)
                      go_wp2_with fail
                      refine (impl_move _ r s.1 s.2.1 7 0 _ _ QB (by omega) (fun _ => HKS.out) (by unfold okKey; decide)).mono ?_
                      rintro e w5 ⟨v5, x, p, rfl, X5, hb5, hX, _⟩
                      have O5 := OB.below hb5
                      have b0 := O5.cell 0
                      have b1 := O5.cell 1
                      have bl := O5.lt
                      have C5 := CB.below hb5
                      have L5 := bel_trans LB hb5
                      have HX := Lib.hid hX
                      clear QB CB OB LB hb5 hX
                      go_wp2_with fail
                      refine (impl_move _ c s.1 s.2.1 7 0 _ _ C5 (by omega) (fun _ => HKS.out) (by unfold okKey; decide)).mono ?_
                      rintro e w6 ⟨v6, y, q, rfl, Y6, hb6, hY, hyl⟩
                      have X6 := X5.below hb6
                      have L6 := bel_trans L5 hb6
                      have HY := Lib.hid hY
                      clear O5 b0 b1 bl C5 L5 hb6 hY X5
                      go_wp2_with fail
                      refine (impl_move _ y n l k m _ _ Y6 (by omega) (fun _ => HKN.out) HK2.out).mono ?_
                      rintro e w7 ⟨v7, z, t, rfl, Z7, hb7, hZ, _⟩
                      have X7 := X6.below hb7
                      have L7 := bel_trans L6 hb7
                      obtain ⟨f1, f2⟩ := move_other HR.out HN1.out HN2.out HN3.out HN4.out HN5.out HX.out HY.out hZ
                      clear X6 L6 hb7 hZ
                      cases p <;> cases q <;> cases t
                      all_goals (first | (exfalso; simp at f1; done) | skip)
                      all_goals (try obtain rfl := f2 rfl)
                      all_goals clear f1 f2
                      all_goals go_wp2_with fail
                      all_goals first | (go_ret; exact ⟨rfl, L7⟩) | (refine (same_shells _ _ _ _ X7.at_ Z7.at_).mono ?_; rintro e w8 ⟨rfl, hb8⟩; go_wp2_with fail; go_ret; exact ⟨rfl, bel_trans L7 hb8⟩)
                    · go_wp2_with fail
                      refine (impl_cfg _ r _ QB.at_).mono ?_
                      rintro e w5 ⟨rfl, hb5⟩
                      rw [HCF.out]
                      go_wp2_with fail
                      go_ret
                      exact ⟨rfl, bel_trans LB hb5⟩
                  · go_wp2_with fail
                    refine (impl_cfg _ r _ QB.at_).mono ?_
                    rintro e w5 ⟨rfl, hb5⟩
                    rw [HCF.out]
                    go_wp2_with fail
                    go_ret
                    exact ⟨rfl, bel_trans LB hb5⟩
              · go_wp2_with fail
                refine (impl_cfg _ r _ QB.at_).mono ?_
                rintro e w5 ⟨rfl, hb5⟩
                rw [HCF.out]
                go_wp2_with fail
                go_ret
                exact ⟨rfl, bel_trans LB hb5⟩
          · cases p4 : s.2.1 == m
            · have HN2 := Lib.hid (show (s.1, s.2.1) ≠ (k, m) from fun e => by have h := congrArg Prod.snd e; dsimp only at h; rw [h] at p4; simp at p4)
              cases p5 : k == 7
              · have HN3 := Lib.hid (show (k, m) ≠ (7, 0) from fun e => by have h := congrArg Prod.fst e; dsimp only at h; rw [h] at p5; simp at p5)
                cases p7 : n == 7
                · have HN4 := Lib.hid (show (n, l) ≠ (7, 0) from fun e => by have h := congrArg Prod.fst e; dsimp only at h; rw [h] at p7; simp at p7)
                  cases p9 : s.1 == 7
                  · have HN5 := Lib.hid (show (s.1, s.2.1) ≠ (7, 0) from fun e => by have h := congrArg Prod.fst e; dsimp only at h; rw [h] at p9; cases p9)
                    go_wp2_with fail
                    refine (impl_move _ r s.1 s.2.1 7 0 _ _ QB (by omega) (fun _ => HKS.out) (by unfold okKey; decide)).mono ?_
                    rintro e w5 ⟨v5, x, p, rfl, X5, hb5, hX, _⟩
                    have O5 := OB.below hb5
                    have b0 := O5.cell 0
                    have b1 := O5.cell 1
                    have bl := O5.lt
                    have C5 := CB.below hb5
                    have L5 := bel_trans LB hb5
                    have HX := Lib.hid hX
                    clear QB CB OB LB hb5 hX
                    go_wp2_with fail
                    refine (impl_move _ c s.1 s.2.1 7 0 _ _ C5 (by omega) (fun _ => HKS.out) (by unfold okKey; decide)).mono ?_
                    rintro e w6 ⟨v6, y, q, rfl, Y6, hb6, hY, hyl⟩
                    have X6 := X5.below hb6
                    have L6 := bel_trans L5 hb6
                    have HY := Lib.hid hY
                    clear O5 b0 b1 bl C5 L5 hb6 hY X5
                    go_wp2_with fail
                    refine (impl_move _ y n l k m _ _ Y6 (by omega) (fun _ => HKN.out) HK2.out).mono ?_
                    rintro e w7 ⟨v7, z, t, rfl, Z7, hb7, hZ, _⟩
                    have X7 := X6.below hb7
                    have L7 := bel_trans L6 hb7
                    obtain ⟨f1, f2⟩ := move_other HR.out HN1.out HN2.out HN3.out HN4.out HN5.out HX.out HY.out hZ
                    clear X6 L6 hb7 hZ
                    cases p <;> cases q <;> cases t
                    all_goals (first | (exfalso; simp at f1; done) | skip)
                    all_goals (try obtain rfl := f2 rfl)
                    all_goals clear f1 f2
                    all_goals go_wp2_with fail
                    all_goals first | (go_ret; exact ⟨rfl, L7⟩) | (refine (same_shells _ _ _ _ X7.at_ Z7.at_).mono ?_; rintro e w8 ⟨rfl, hb8⟩; go_wp2_with fail; go_ret; exact ⟨rfl, bel_trans L7 hb8⟩)
                  · go_wp2_with fail
                    refine (impl_cfg _ r _ QB.at_).mono ?_
                    rintro e w5 ⟨rfl, hb5⟩
                    rw [HCF.out]
                    go_wp2_with fail
                    go_ret
                    exact ⟨rfl, bel_trans LB hb5⟩
                · cases p8 : l == 0
                  · have HN4 := Lib.hid (show (n, l) ≠ (7, 0) from fun e => by have h := congrArg Prod.snd e; dsimp only at h; rw [h] at p8; simp at p8)
                    cases p9 : s.1 == 7
                    · have HN5 := Lib.hid (show (s.1, s.2.1) ≠ (7, 0) from fun e => by have h := congrArg Prod.fst e; dsimp only at h; rw [h] at p9; cases p9)
                      go_wp2_with fail
                      refine (impl_move _ r s.1 s.2.1 7 0 _ _ QB (by omega) (fun _ => HKS.out) (by unfold okKey; decide)).mono ?_
                      rintro e w5 ⟨v5, x, p, rfl, X5, hb5, hX, _⟩
                      have O5 := OB.below hb5
                      have b0 := O5.cell 0
                      have b1 := O5.cell 1
                      have bl := O5.lt
                      have C5 := CB.below hb5
                      have L5 := bel_trans LB hb5
                      have HX := Lib.hid hX
                      clear QB CB OB LB hb5 hX
                      go_wp2_with fail
                      refine (impl_move _ c s.1 s.2.1 7 0 _ _ C5 (by omega) (fun _ => HKS.out) (by unfold okKey; decide)).mono ?_
                      rintro e w6 ⟨v6, y, q, rfl, Y6, hb6, hY, hyl⟩
                      have X6 := X5.below hb6
                      have L6 := bel_trans L5 hb6
                      have HY := Lib.hid hY
                      clear O5 b0 b1 bl C5 L5 hb6 hY X5
                      go_wp2_with fail
                      refine (impl_move _ y n l k m _ _ Y6 (by omega) (fun _ => HKN.out) HK2.out).mono ?_
                      rintro e w7 ⟨v7, z, t, rfl, Z7, hb7, hZ, _⟩
                      have X7 := X6.below hb7
                      have L7 := bel_trans L6 hb7
                      obtain ⟨f1, f2⟩ := move_other HR.out HN1.out HN2.out HN3.out HN4.out HN5.out HX.out HY.out hZ
                      clear X6 L6 hb7 hZ
                      cases p <;> cases q <;> cases t
                      all_goals (first | (exfalso; simp at f1; done) | skip)
                      all_goals (try obtain rfl := f2 rfl)
                      all_goals clear f1 f2
                      all_goals go_wp2_with fail
                      all_goals first | (go_ret; exact ⟨rfl, L7⟩) | (refine (same_shells _ _ _ _ X7.at_ Z7.at_).mono ?_; rintro e w8 ⟨rfl, hb8⟩; go_wp2_with fail; go_ret; exact ⟨rfl, bel_trans L7 hb8⟩)
                    · go_wp2_with fail
                      refine (impl_cfg _ r _ QB.at_).mono ?_
                      rintro e w5 ⟨rfl, hb5⟩
                      rw [HCF.out]
                      go_wp2_with fail
                      go_ret
                      exact ⟨rfl, bel_trans LB hb5⟩
                  · go_wp2_with fail
                    refine (impl_cfg _ r _ QB.at_).mono ?_
                    rintro e w5 ⟨rfl, hb5⟩
                    rw [HCF.out]
                    go_wp2_with fail
                    go_ret
                    exact ⟨rfl, bel_trans LB hb5⟩
              · cases p6 : m == 0
                · have HN3 := Lib.hid (show (k, m) ≠ (7, 0) from fun e => by have h := congrArg Prod.snd e; dsimp only at h; rw [h] at p6; simp at p6)
                  cases p7 : n == 7
                  · have HN4 := Lib.hid (show (n, l) ≠ (7, 0) from fun e => by have h := congrArg Prod.fst e; dsimp only at h; rw [h] at p7; simp at p7)
                    cases p9 : s.1 == 7
                    · have HN5 := Lib.hid (show (s.1, s.2.1) ≠ (7, 0) from fun e => by have h := congrArg Prod.fst e; dsimp only at h; rw [h] at p9; cases p9)
                      go_wp2_with fail
                      refine (impl_move _ r s.1 s.2.1 7 0 _ _ QB (by omega) (fun _ => HKS.out) (by unfold okKey; decide)).mono ?_
                      rintro e w5 ⟨v5, x, p, rfl, X5, hb5, hX, _⟩
                      have O5 := OB.below hb5
                      have b0 := O5.cell 0
                      have b1 := O5.cell 1
                      have bl := O5.lt
                      have C5 := CB.below hb5
                      have L5 := bel_trans LB hb5
                      have HX := Lib.hid hX
                      clear QB CB OB LB hb5 hX
                      go_wp2_with fail
                      refine (impl_move _ c s.1 s.2.1 7 0 _ _ C5 (by omega) (fun _ => HKS.out) (by unfold okKey; decide)).mono ?_
                      rintro e w6 ⟨v6, y, q, rfl, Y6, hb6, hY, hyl⟩
                      have X6 := X5.below hb6
                      have L6 := bel_trans L5 hb6
                      have HY := Lib.hid hY
                      clear O5 b0 b1 bl C5 L5 hb6 hY X5
                      go_wp2_with fail
                      refine (impl_move _ y n l k m _ _ Y6 (by omega) (fun _ => HKN.out) HK2.out).mono ?_
                      rintro e w7 ⟨v7, z, t, rfl, Z7, hb7, hZ, _⟩
                      have X7 := X6.below hb7
                      have L7 := bel_trans L6 hb7
                      obtain ⟨f1, f2⟩ := move_other HR.out HN1.out HN2.out HN3.out HN4.out HN5.out HX.out HY.out hZ
                      clear X6 L6 hb7 hZ
                      cases p <;> cases q <;> cases t
                      all_goals (first | (exfalso; simp at f1; done) | skip)
                      all_goals (try obtain rfl := f2 rfl)
                      all_goals clear f1 f2
                      all_goals go_wp2_with fail
                      all_goals first | (go_ret; exact ⟨rfl, L7⟩) | (refine (same_shells _ _ _ _ X7.at_ Z7.at_).mono ?_; rintro e w8 ⟨rfl, hb8⟩; go_wp2_with fail; go_ret; exact ⟨rfl, bel_trans L7 hb8⟩)
                    · go_wp2_with fail
                      refine (impl_cfg _ r _ QB.at_).mono ?_
                      rintro e w5 ⟨rfl, hb5⟩
                      rw [HCF.out]
                      go_wp2_with fail
                      go_ret
                      exact ⟨rfl, bel_trans LB hb5⟩
                  · cases p8 : l == 0
                    · have HN4 := Lib.hid (show (n, l) ≠ (7, 0) from fun e => by have h := congrArg Prod.snd e; dsimp only at h; rw [h] at p8; simp at p8)
                      cases p9 : s.1 == 7
                      · have HN5 := Lib.hid (show (s.1, s.2.1) ≠ (7, 0) from fun e => by have h := congrArg Prod.fst e; dsimp only at h; rw [h] at p9; cases p9)
                        go_wp2_with fail
                        refine (impl_move _ r s.1 s.2.1 7 0 _ _ QB (by omega) (fun _ => HKS.out) (by unfold okKey; decide)).mono ?_
                        rintro e w5 ⟨v5, x, p, rfl, X5, hb5, hX, _⟩
                        have O5 := OB.below hb5
                        have b0 := O5.cell 0
                        have b1 := O5.cell 1
                        have bl := O5.lt
                        have C5 := CB.below hb5
                        have L5 := bel_trans LB hb5
                        have HX := Lib.hid hX
                        clear QB CB OB LB hb5 hX
                        go_wp2_with fail
                        refine (impl_move _ c s.1 s.2.1 7 0 _ _ C5 (by omega) (fun _ => HKS.out) (by unfold okKey; decide)).mono ?_
                        rintro e w6 ⟨v6, y, q, rfl, Y6, hb6, hY, hyl⟩
                        have X6 := X5.below hb6
                        have L6 := bel_trans L5 hb6
                        have HY := Lib.hid hY
                        clear O5 b0 b1 bl C5 L5 hb6 hY X5
                        go_wp2_with fail
                        refine (impl_move _ y n l k m _ _ Y6 (by omega) (fun _ => HKN.out) HK2.out).mono ?_
                        rintro e w7 ⟨v7, z, t, rfl, Z7, hb7, hZ, _⟩
                        have X7 := X6.below hb7
                        have L7 := bel_trans L6 hb7
                        obtain ⟨f1, f2⟩ := move_other HR.out HN1.out HN2.out HN3.out HN4.out HN5.out HX.out HY.out hZ
                        clear X6 L6 hb7 hZ
                        cases p <;> cases q <;> cases t
                        all_goals (first | (exfalso; simp at f1; done) | skip)
                        all_goals (try obtain rfl := f2 rfl)
                        all_goals clear f1 f2
                        all_goals go_wp2_with fail
                        all_goals first | (go_ret; exact ⟨rfl, L7⟩) | (refine (same_shells _ _ _ _ X7.at_ Z7.at_).mono ?_; rintro e w8 ⟨rfl, hb8⟩; go_wp2_with fail; go_ret; exact ⟨rfl, bel_trans L7 hb8⟩)
                      · go_wp2_with fail
                        refine (impl_cfg _ r _ QB.at_).mono ?_
                        rintro e w5 ⟨rfl, hb5⟩
                        rw [HCF.out]
                        go_wp2_with fail
                        go_ret
                        exact ⟨rfl, bel_trans LB hb5⟩
                    · go_wp2_with fail
                      refine (impl_cfg _ r _ QB.at_).mono ?_
                      rintro e w5 ⟨rfl, hb5⟩
                      rw [HCF.out]
                      go_wp2_with fail
                      go_ret
                      exact ⟨rfl, bel_trans LB hb5⟩
                · go_wp2_with fail
                  refine (impl_cfg _ r _ QB.at_).mono ?_
                  rintro e w5 ⟨rfl, hb5⟩
                  rw [HCF.out]
                  go_wp2_with fail
                  go_ret
                  exact ⟨rfl, bel_trans LB hb5⟩
            · go_wp2_with fail
              refine (impl_cfg _ r _ QB.at_).mono ?_
              rintro e w5 ⟨rfl, hb5⟩
              rw [HCF.out]
              go_wp2_with fail
              go_ret
              exact ⟨rfl, bel_trans LB hb5⟩
        · go_wp2_with fail
          refine (impl_cfg _ r _ QB.at_).mono ?_
          rintro e w5 ⟨rfl, hb5⟩
          rw [HCF.out]
          go_wp2_with fail
          go_ret
          exact ⟨rfl, bel_trans LB hb5⟩

set_option maxRecDepth 100000 in
theorem lifted (os : Os) (started : os.Started) (H : Type) (enc : TypeId × Value → H) :
    ReturnsInHanded {} Try.checked os 9 .any (Rows.fnMoveOtherSpec.pre6 enc Try.prog Try.f9 Rows.fnMoveOtherRow.domain false) (Rows.fnMoveOtherSpec.post enc Try.prog Try.f9 false true false false) := by
  refine returnsInHanded_of_change (C := Try.checked) own started (by kernel_rfl) Try.func9
    (ChangeSpec.witness6 (enc := enc) (C := Try.checked) false ⟨#[], #[.slice none 0 0], []⟩ 8 (by kernel_rfl) (by kernel_rfl) (by kernel_rfl) (by kernel_rfl)) ?_
  intro W base args ds gs before hval0 hW hcnd _
  have hval : ∀ (j : Nat) t v, Try.f9.params[j]? = some t → args[j]? = some v → Value.okWide Try.prog W .any base t v := hval0
  have hW' := hW
  have hlt := hW.lt
  obtain ⟨p, q, hA0, hV, rfl, hfz, hnd⟩ := hW
  have hA : DataW.TrodAll enc Try.prog W 0 (fun _ => true) true Try.f9.params.toList args.toList ds p := hA0
  rw [Try.params9] at hA hval
  obtain ⟨v0, vs0, d0, ds0, p0, q0, hargs, rfl, rfl, h0, r0⟩ := trodAll_cons hA
  obtain ⟨rfl, rfl, rfl⟩ := trodAll_nil r0
  obtain rfl : args = #[v0] := by cases args; simp_all
  obtain ⟨rfl, rfl⟩ := trodVars_none hV
  clear hA0 hval0 hA hfz hnd
  obtain ⟨a0, n0, c0, rfl, hnc0, hcm0, hb0⟩ := open_bytes Try.underlying22 Try.underlying5 (by kernel_rfl) (hval 0 22 v0 rfl rfl) h0 (fun x hx => hlt x (by simp [hx]))
  exact law_close laidOut (by kernel_rfl) rfl Try.underlying4 rfl rfl hW' (walk a0 n0 c0 W hnc0 hcm0 hb0)

theorem over : Rows.fnMoveOtherRow.holds Try.pinned (OpenSpec.ofChange Rows.fnMoveOtherSpec) :=
  OpenClaim.holds_of_wide 9 Try.f9 rfl rfl rfl rfl rfl rfl rfl ⟨rfl, rfl, rfl, rfl, rfl⟩ rfl rfl rfl rfl rfl (by kernel_rfl) Try.func9 (by kernel_rfl)
    (of_decide_eq_true (by kernel_rfl)) (by unfold Func.isWrapper; first | (rw [if_pos (by decide +kernel)]; kernel_rfl) | (rw [if_neg (by decide +kernel)]; exact ⟨rfl, rfl⟩))
    (fun os started H enc _ => lifted os started H enc)

theorem proved : Rows.FnMoveOtherSaid := over

end Go.Proofs.Ytgemocbpfbdnmaa.fnMoveOther
