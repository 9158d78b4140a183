/-
  The draws of roots. (Printed by wip/mk_draw2.py.)
-/
import Derived.Test.YtefddmfnjneegaaDoorDrawRoot
namespace Go.Proofs.YtefddmfnjneegaaDoor
open Go.ChangeShapes Go.WideShapes Go.ChangeAt Go.RowKit Go.Deep Go.Joins
set_option linter.unusedVariables false
set_option maxRecDepth 100000

/-- what a draw of a root leaves -/
def RootEnd (w : World) (B g K : Nat) (e : Ending) (w' : World) : Prop := ∃ a : Rt, e = .returned (rtV a) ∧ Rdr w' B g K ∧ w.grownBy w' (some g)

theorem root_rdr {w6 : World} {B g K b : Nat} (h : Rdr w6 B g K) (hne : b ≠ g) (hB : B ≤ b) (u v x : Value) : Rdr (((w6.setCell ⟨b, 0, none⟩ u).setCell ⟨b, 1, none⟩ v).setCell ⟨b, 2, none⟩ x) B g K :=
  ((h.set_ (p := ⟨b, 0, none⟩) hne hB u).set_ (p := ⟨b, 1, none⟩) hne hB v).set_ (p := ⟨b, 2, none⟩) hne hB x
theorem root_only {w w6 : World} {g : Nat} (h : w.grownBy w6 (some g)) (u v x : Value) : w.grownBy (((w6.setCell ⟨w.heap.size, 0, none⟩ u).setCell ⟨w.heap.size, 1, none⟩ v).setCell ⟨w.heap.size, 2, none⟩ x) (some g) :=
  only_set (only_set (only_set h (p := ⟨w.heap.size, 0, none⟩) (Nat.le_refl _) u) (p := ⟨w.heap.size, 1, none⟩) (Nat.le_refl _) v) (p := ⟨w.heap.size, 2, none⟩) (Nat.le_refl _) x

set_option maxHeartbeats 8000000 in
theorem l91_root (B g K : Nat) (hK : K ≤ 700000) (w : World) (hr : Rdr w B g K) : Calls Tryd.prog 15 #[.pointer (some ⟨g, 0, none⟩)] w (RootEnd w B g (K + 8)) := by
  have hgl := hr.lt
  have hBg := hr.1
  have hne0 : w.heap.size ≠ g := by omega
  have hBw : B ≤ w.heap.size := by omega
  have hr0 := hr.below (bel_alloc (Below.refl _ _) (.cells #[.int .i64 0, .int .i64 0, .int .i64 0] 29))
  have O0 := Own.new w 29 #[.int .i64 0, .int .i64 0, .int .i64 0]
  have L0 := only_alloc (World.grownBy.refl w (some g)) (.cells #[.int .i64 0, .int .i64 0, .int .i64 0] 29)
  go_enter Tryd.func15, Tryd.ntmps15
  go_wp2_with fail
  refine (l91_rat B g K (by omega) _ hr0).mono ?_
  rintro e w1 ⟨x, y, rfl, hx, hr1, hg1⟩
  have O1 := O0.pick hg1 hne0
  have L1 := only_trans L0 hg1
  clear hg1 O0 L0 hr0
  have HA := Lib.hid (fun w => spec_abs x (by omega) (by omega) w)
  obtain ⟨X, hX⟩ : ∃ X : Int, (x.natAbs : Int) = X := ⟨_, rfl⟩
  rw [hX] at HA
  obtain ⟨b4, hb4⟩ : ∃ b4, w1.heap.size + 1 = b4 := ⟨_, rfl⟩
  have hr1l := hr1.lt
  have hz1 := L1.size
  have hne4 : b4 ≠ g := by omega
  have hB4 : B ≤ b4 := by omega
  have hw4 : w.heap.size ≤ b4 := by omega
  have hd4 : w.heap.size ≠ b4 := by have := O1.lt; omega
  clear hX
  go_wp2_with (go_at_call 24; refine (HA.out _).mono ?_; rintro e w' ⟨rfl, rfl⟩)
  have hr2 := hr1.below (bel_alloc (bel_alloc (Below.refl _ _) (.cells #[.int .i64 X, .int .i64 y] 27)) (.cells #[.int .i64 1, .int .i64 X, .int .i64 y] 29))
  have O2 := (O1.alloc (.cells #[.int .i64 X, .int .i64 y] 27)).alloc (.cells #[.int .i64 1, .int .i64 X, .int .i64 y] 29)
  have P2 := (Own.new w1 27 #[.int .i64 X, .int .i64 y]).alloc (.cells #[.int .i64 1, .int .i64 X, .int .i64 y] 29)
  have Q2 := Own.new (w1.alloc (.cells #[.int .i64 X, .int .i64 y] 27)) 29 #[.int .i64 1, .int .i64 X, .int .i64 y]
  simp only [World.size_alloc] at Q2
  rw [hb4] at Q2
  have L2 := only_alloc (only_alloc L1 (.cells #[.int .i64 X, .int .i64 y] 27)) (.cells #[.int .i64 1, .int .i64 X, .int .i64 y] 29)
  have hne3 : w1.heap.size ≠ g := by omega
  clear hr1 O1 L1
  refine (pick_any B g _ 2 (by omega) _ hr2).mono ?_
  rintro e w2 ⟨x1, rfl, hx1, hy1, _, hr3, hg3⟩
  have O3 := O2.pick hg3 hne0
  have P3 := P2.pick hg3 hne3
  have Q3 := Q2.pick hg3 hne4
  have L3 := only_trans L2 hg3
  have q0 := P3.cell
  have k0 := P3.lt
  have q4 := Q3.cell
  have k4 := Q3.lt
  have f4 := Q3.frozen
  have hd3 : w1.heap.size ≠ b4 := by omega
  clear hg3 hr2 O2 P2 Q2 L2 hy1
  cases h1 : x1 == 0
  all_goals cases h2 : X == 0
  all_goals
    go_wp2_with fail
    refine (pick_any B g (K + 6 + 1) 40 (by omega) _ ?_).mono ?_
    · repeat (first | exact hr3 | refine Rdr.set_ ?_ hne4 hB4 _)
    rintro e w4 ⟨x2, rfl, hx2, hy2, _, hr5, hg5⟩
    obtain ⟨s, Q5⟩ : ∃ s : Int, Own w4 b4 29 #[.int .i64 s, .int .i64 X, .int .i64 y] := by
      first
        | exact ⟨1, Q3.pick hg5 hne4⟩
        | exact ⟨-1, (Q3.set_ 0 (.int .i64 (-1))).pick hg5 hne4⟩
        | exact ⟨0, (Q3.set_ 0 (.int .i64 0)).pick hg5 hne4⟩
        | exact ⟨0, ((Q3.set_ 0 (.int .i64 (-1))).set_ 0 (.int .i64 0)).pick hg5 hne4⟩
    have O5 : Own w4 w.heap.size 29 #[.int .i64 0, .int .i64 0, .int .i64 0] := by
      first
        | exact O3.pick hg5 hne0
        | exact (O3.far (p := ⟨b4, 0, none⟩) hd4 _).pick hg5 hne0
        | exact ((O3.far (p := ⟨b4, 0, none⟩) hd4 _).far (p := ⟨b4, 0, none⟩) hd4 _).pick hg5 hne0
    have L5 : w.grownBy w4 (some g) := by
      first
        | exact only_trans L3 hg5
        | exact only_trans (only_set L3 (p := ⟨b4, 0, none⟩) hw4 _) hg5
        | exact only_trans (only_set (only_set L3 (p := ⟨b4, 0, none⟩) hw4 _) (p := ⟨b4, 0, none⟩) hw4 _) hg5
    have hr5 := hr5.more (show _ ≤ K + 8 by omega)
    clear hg5 hr3 O3 P3 Q3 L3 q0 k0 q4 k4 f4 h1 h2 hy2
    have q4 := Q5.cell
    have k4 := Q5.lt
    have f4 := Q5.frozen
    have q5 := O5.cell
    have k5 := O5.lt
    have f5 := O5.frozen
    cases c0 : x2 == 0
    · cases c1 : x2 == 1
      · cases c2 : x2 == 2
        · go_wp2_with fail
          have OF := ((O5.set_ 0 (.int .i64 s)).set_ 1 (.int .i64 X)).set_ 2 (.int .i64 y)
          have qF := OF.cell
          exact bodyPost_ret (v := .agg #[.int .i64 s, .int .i64 X, .int .i64 y]) (by simp [results, Tryd.results15, go_sem, qF]) rfl ⟨(s, X, y), rfl, root_rdr hr5 hne0 hBw _ _ _, root_only L5 _ _ _⟩
        · go_wp2_with fail
          have OF := ((((O5.far (p := ⟨b4, 1, none⟩) hd4 (.int .i64 (-1))).far (p := ⟨b4, 2, none⟩) hd4 (.int .i64 2)).set_ 0 (.int .i64 s)).set_ 1 (.int .i64 (-1))).set_ 2 (.int .i64 2)
          have qF := OF.cell
          have hr6 := (hr5.set_ (p := ⟨b4, 1, none⟩) hne4 hB4 (.int .i64 (-1))).set_ (p := ⟨b4, 2, none⟩) hne4 hB4 (.int .i64 2)
          have L6 := only_set (only_set L5 (p := ⟨b4, 1, none⟩) hw4 (.int .i64 (-1))) (p := ⟨b4, 2, none⟩) hw4 (.int .i64 2)
          exact bodyPost_ret (v := .agg #[.int .i64 s, .int .i64 (-1), .int .i64 2]) (by simp [results, Tryd.results15, go_sem, qF]) rfl ⟨(s, -1, 2), rfl, root_rdr hr6 hne0 hBw _ _ _, root_only L6 _ _ _⟩
      · go_wp2_with fail
        have OF := (((O5.far (p := ⟨b4, 0, none⟩) hd4 (.int .i64 0)).set_ 0 (.int .i64 0)).set_ 1 (.int .i64 X)).set_ 2 (.int .i64 y)
        have qF := OF.cell
        have hr6 := hr5.set_ (p := ⟨b4, 0, none⟩) hne4 hB4 (.int .i64 0)
        have L6 := only_set L5 (p := ⟨b4, 0, none⟩) hw4 (.int .i64 0)
        exact bodyPost_ret (v := .agg #[.int .i64 0, .int .i64 X, .int .i64 y]) (by simp [results, Tryd.results15, go_sem, qF]) rfl ⟨(0, X, y), rfl, root_rdr hr6 hne0 hBw _ _ _, root_only L6 _ _ _⟩
    · go_wp2_with fail
      have OF := (((O5.far (p := ⟨b4, 0, none⟩) hd4 (.int .i64 2)).set_ 0 (.int .i64 2)).set_ 1 (.int .i64 X)).set_ 2 (.int .i64 y)
      have qF := OF.cell
      have hr6 := hr5.set_ (p := ⟨b4, 0, none⟩) hne4 hB4 (.int .i64 2)
      have L6 := only_set L5 (p := ⟨b4, 0, none⟩) hw4 (.int .i64 2)
      exact bodyPost_ret (v := .agg #[.int .i64 2, .int .i64 X, .int .i64 y]) (by simp [results, Tryd.results15, go_sem, qF]) rfl ⟨(2, X, y), rfl, root_rdr hr6 hne0 hBw _ _ _, root_only L6 _ _ _⟩

theorem bel_six {w w9 : World} (h : Below w.heap.size w w9) (u v x u' v' x' : Value) : Below w.heap.size w ((((((w9.setCell ⟨w.heap.size, 0, none⟩ u).setCell ⟨w.heap.size, 1, none⟩ v).setCell ⟨w.heap.size, 2, none⟩ x).setCell ⟨w.heap.size + 1, 0, none⟩ u').setCell ⟨w.heap.size + 1, 1, none⟩ v').setCell ⟨w.heap.size + 1, 2, none⟩ x') :=
  bel_set (bel_set (bel_set (bel_set (bel_set (bel_set h (p := ⟨w.heap.size, 0, none⟩) (by simp) u) (p := ⟨w.heap.size, 1, none⟩) (by simp) v) (p := ⟨w.heap.size, 2, none⟩) (by simp) x) (p := ⟨w.heap.size + 1, 0, none⟩) (by simp) u') (p := ⟨w.heap.size + 1, 1, none⟩) (by simp) v') (p := ⟨w.heap.size + 1, 2, none⟩) (by simp) x'
/-- what a draw of two roots leaves -/
def TwoEnd (w : World) (e : Ending) (w' : World) : Prop := ∃ a b : Rt, e = .returned (.tuple #[rtV a, rtV b]) ∧ Below w.heap.size w w'


end Go.Proofs.YtefddmfnjneegaaDoor
