/-
  The draws of roots. (Printed by wip/mk_draw2.py.)
-/
import Derived.Test.YtefddmfnjneegaaDrawRoot
namespace Go.Proofs.Ytefddmfnjneegaa
open Go.ChangeShapes Go.WideShapes Go.ChangeAt Go.RowKit Go.Deep Go.Joins
set_option linter.unusedVariables false
set_option maxRecDepth 100000

/-- what a draw of a root leaves -/
def RootEnd (w : World) (B g K : Nat) (e : Ending) (w' : World) : Prop := ∃ a : Rt, e = .returned (rtV a) ∧ Rdr w' B g K ∧ w.grownBy w' (some g)

theorem root_rdr {w6 : World} {B g K b : Nat} (h : Rdr w6 B g K) (hne : b ≠ g) (hB : B ≤ b) (u v x : Value) : Rdr (((w6.setCell ⟨b, 0, none⟩ u).setCell ⟨b, 1, none⟩ v).setCell ⟨b, 2, none⟩ x) B g K :=
  ((h.set_ (p := ⟨b, 0, none⟩) hne hB u).set_ (p := ⟨b, 1, none⟩) hne hB v).set_ (p := ⟨b, 2, none⟩) hne hB x
theorem root_only {w w6 : World} {g : Nat} (h : w.grownBy w6 (some g)) (u v x : Value) : w.grownBy (((w6.setCell ⟨w.heap.size, 0, none⟩ u).setCell ⟨w.heap.size, 1, none⟩ v).setCell ⟨w.heap.size, 2, none⟩ x) (some g) :=
  only_set (only_set (only_set h (p := ⟨w.heap.size, 0, none⟩) (Nat.le_refl _) u) (p := ⟨w.heap.size, 1, none⟩) (Nat.le_refl _) v) (p := ⟨w.heap.size, 2, none⟩) (Nat.le_refl _) x

set_option maxHeartbeats 8000000 in
theorem l91_root (B g K : Nat) (hK : K ≤ 700000) (w : World) (hr : Rdr w B g K) : Calls Try.prog 10 #[.pointer (some ⟨g, 0, none⟩)] w (RootEnd w B g (K + 8)) := by
  have hgl := hr.lt
  have hBg := hr.1
  have hne0 : w.heap.size ≠ g := by omega
  have hBw : B ≤ w.heap.size := by omega
  have hr0 := hr.below (bel_alloc (Below.refl _ _) (.cells #[.int .i64 0, .int .i64 0, .int .i64 0] 26))
  have O0 := Own.new w 26 #[.int .i64 0, .int .i64 0, .int .i64 0]
  have L0 := only_alloc (World.grownBy.refl w (some g)) (.cells #[.int .i64 0, .int .i64 0, .int .i64 0] 26)
  go_enter Try.func10, Try.ntmps10
  go_wp2_with fail
  refine (l91_rat B g K (by omega) _ hr0).mono ?_
  rintro e w1 ⟨x, y, rfl, hx, hr1, hg1⟩
  have O1 := O0.pick hg1 hne0
  have L1 := only_trans L0 hg1
  clear hg1 O0 L0 hr0
  have HA := Lib.hid (fun w => spec_abs x (by omega) (by omega) w)
  obtain ⟨X, hX⟩ : ∃ X : Int, (x.natAbs : Int) = X := ⟨_, rfl⟩
  rw [hX] at HA
  obtain ⟨b4, hb4⟩ : ∃ b4, w1.heap.size + 1 = b4 := ⟨_, rfl⟩
  have hr1l := hr1.lt
  have hz1 := L1.size
  have hne4 : b4 ≠ g := by omega
  have hB4 : B ≤ b4 := by omega
  have hw4 : w.heap.size ≤ b4 := by omega
  have hd4 : w.heap.size ≠ b4 := by have := O1.lt; omega
  clear hX
  go_wp2_with (go_at_call 17; refine (HA.out _).mono ?_; rintro e w' ⟨rfl, rfl⟩)
  have hr2 := hr1.below (bel_alloc (bel_alloc (Below.refl _ _) (.cells #[.int .i64 X, .int .i64 y] 24)) (.cells #[.int .i64 1, .int .i64 X, .int .i64 y] 26))
  have O2 := (O1.alloc (.cells #[.int .i64 X, .int .i64 y] 24)).alloc (.cells #[.int .i64 1, .int .i64 X, .int .i64 y] 26)
  have P2 := (Own.new w1 24 #[.int .i64 X, .int .i64 y]).alloc (.cells #[.int .i64 1, .int .i64 X, .int .i64 y] 26)
  have Q2 := Own.new (w1.alloc (.cells #[.int .i64 X, .int .i64 y] 24)) 26 #[.int .i64 1, .int .i64 X, .int .i64 y]
  simp only [World.size_alloc] at Q2
  rw [hb4] at Q2
  have L2 := only_alloc (only_alloc L1 (.cells #[.int .i64 X, .int .i64 y] 24)) (.cells #[.int .i64 1, .int .i64 X, .int .i64 y] 26)
  have hne3 : w1.heap.size ≠ g := by omega
  clear hr1 O1 L1
  refine (pick_any B g _ 2 (by omega) _ hr2).mono ?_
  rintro e w2 ⟨x1, rfl, hx1, hy1, _, hr3, hg3⟩
  have O3 := O2.pick hg3 hne0
  have P3 := P2.pick hg3 hne3
  have Q3 := Q2.pick hg3 hne4
  have L3 := only_trans L2 hg3
  have q0 := P3.cell
  have k0 := P3.lt
  have q4 := Q3.cell
  have k4 := Q3.lt
  have f4 := Q3.frozen
  have hd3 : w1.heap.size ≠ b4 := by omega
  clear hg3 hr2 O2 P2 Q2 L2 hy1
  cases h1 : x1 == 0
  all_goals cases h2 : X == 0
  all_goals
    go_wp2_with fail
    refine (pick_any B g (K + 6 + 1) 40 (by omega) _ ?_).mono ?_
    · repeat (first | exact hr3 | refine Rdr.set_ ?_ hne4 hB4 _)
    rintro e w4 ⟨x2, rfl, hx2, hy2, _, hr5, hg5⟩
    obtain ⟨s, Q5⟩ : ∃ s : Int, Own w4 b4 26 #[.int .i64 s, .int .i64 X, .int .i64 y] := by
      first
        | exact ⟨1, Q3.pick hg5 hne4⟩
        | exact ⟨-1, (Q3.set_ 0 (.int .i64 (-1))).pick hg5 hne4⟩
        | exact ⟨0, (Q3.set_ 0 (.int .i64 0)).pick hg5 hne4⟩
        | exact ⟨0, ((Q3.set_ 0 (.int .i64 (-1))).set_ 0 (.int .i64 0)).pick hg5 hne4⟩
    have O5 : Own w4 w.heap.size 26 #[.int .i64 0, .int .i64 0, .int .i64 0] := by
      first
        | exact O3.pick hg5 hne0
        | exact (O3.far (p := ⟨b4, 0, none⟩) hd4 _).pick hg5 hne0
        | exact ((O3.far (p := ⟨b4, 0, none⟩) hd4 _).far (p := ⟨b4, 0, none⟩) hd4 _).pick hg5 hne0
    have L5 : w.grownBy w4 (some g) := by
      first
        | exact only_trans L3 hg5
        | exact only_trans (only_set L3 (p := ⟨b4, 0, none⟩) hw4 _) hg5
        | exact only_trans (only_set (only_set L3 (p := ⟨b4, 0, none⟩) hw4 _) (p := ⟨b4, 0, none⟩) hw4 _) hg5
    have hr5 := hr5.more (show _ ≤ K + 8 by omega)
    clear hg5 hr3 O3 P3 Q3 L3 q0 k0 q4 k4 f4 h1 h2 hy2
    have q4 := Q5.cell
    have k4 := Q5.lt
    have f4 := Q5.frozen
    have q5 := O5.cell
    have k5 := O5.lt
    have f5 := O5.frozen
    cases c0 : x2 == 0
    · cases c1 : x2 == 1
      · cases c2 : x2 == 2
        · go_wp2_with fail
          have OF := ((O5.set_ 0 (.int .i64 s)).set_ 1 (.int .i64 X)).set_ 2 (.int .i64 y)
          have qF := OF.cell
          exact bodyPost_ret (v := .agg #[.int .i64 s, .int .i64 X, .int .i64 y]) (by simp [results, Try.results10, go_sem, qF]) rfl ⟨(s, X, y), rfl, root_rdr hr5 hne0 hBw _ _ _, root_only L5 _ _ _⟩
        · go_wp2_with fail
          have OF := ((((O5.far (p := ⟨b4, 1, none⟩) hd4 (.int .i64 (-1))).far (p := ⟨b4, 2, none⟩) hd4 (.int .i64 2)).set_ 0 (.int .i64 s)).set_ 1 (.int .i64 (-1))).set_ 2 (.int .i64 2)
          have qF := OF.cell
          have hr6 := (hr5.set_ (p := ⟨b4, 1, none⟩) hne4 hB4 (.int .i64 (-1))).set_ (p := ⟨b4, 2, none⟩) hne4 hB4 (.int .i64 2)
          have L6 := only_set (only_set L5 (p := ⟨b4, 1, none⟩) hw4 (.int .i64 (-1))) (p := ⟨b4, 2, none⟩) hw4 (.int .i64 2)
          exact bodyPost_ret (v := .agg #[.int .i64 s, .int .i64 (-1), .int .i64 2]) (by simp [results, Try.results10, go_sem, qF]) rfl ⟨(s, -1, 2), rfl, root_rdr hr6 hne0 hBw _ _ _, root_only L6 _ _ _⟩
      · go_wp2_with fail
        have OF := (((O5.far (p := ⟨b4, 0, none⟩) hd4 (.int .i64 0)).set_ 0 (.int .i64 0)).set_ 1 (.int .i64 X)).set_ 2 (.int .i64 y)
        have qF := OF.cell
        have hr6 := hr5.set_ (p := ⟨b4, 0, none⟩) hne4 hB4 (.int .i64 0)
        have L6 := only_set L5 (p := ⟨b4, 0, none⟩) hw4 (.int .i64 0)
        exact bodyPost_ret (v := .agg #[.int .i64 0, .int .i64 X, .int .i64 y]) (by simp [results, Try.results10, go_sem, qF]) rfl ⟨(0, X, y), rfl, root_rdr hr6 hne0 hBw _ _ _, root_only L6 _ _ _⟩
    · go_wp2_with fail
      have OF := (((O5.far (p := ⟨b4, 0, none⟩) hd4 (.int .i64 2)).set_ 0 (.int .i64 2)).set_ 1 (.int .i64 X)).set_ 2 (.int .i64 y)
      have qF := OF.cell
      have hr6 := hr5.set_ (p := ⟨b4, 0, none⟩) hne4 hB4 (.int .i64 2)
      have L6 := only_set L5 (p := ⟨b4, 0, none⟩) hw4 (.int .i64 2)
      exact bodyPost_ret (v := .agg #[.int .i64 2, .int .i64 X, .int .i64 y]) (by simp [results, Try.results10, go_sem, qF]) rfl ⟨(2, X, y), rfl, root_rdr hr6 hne0 hBw _ _ _, root_only L6 _ _ _⟩

theorem bel_six {w w9 : World} (h : Below w.heap.size w w9) (u v x u' v' x' : Value) : Below w.heap.size w ((((((w9.setCell ⟨w.heap.size, 0, none⟩ u).setCell ⟨w.heap.size, 1, none⟩ v).setCell ⟨w.heap.size, 2, none⟩ x).setCell ⟨w.heap.size + 1, 0, none⟩ u').setCell ⟨w.heap.size + 1, 1, none⟩ v').setCell ⟨w.heap.size + 1, 2, none⟩ x') :=
  bel_set (bel_set (bel_set (bel_set (bel_set (bel_set h (p := ⟨w.heap.size, 0, none⟩) (by simp) u) (p := ⟨w.heap.size, 1, none⟩) (by simp) v) (p := ⟨w.heap.size, 2, none⟩) (by simp) x) (p := ⟨w.heap.size + 1, 0, none⟩) (by simp) u') (p := ⟨w.heap.size + 1, 1, none⟩) (by simp) v') (p := ⟨w.heap.size + 1, 2, none⟩) (by simp) x'
/-- what a draw of two roots leaves -/
def TwoEnd (w : World) (e : Ending) (w' : World) : Prop := ∃ a b : Rt, e = .returned (.tuple #[rtV a, rtV b]) ∧ Below w.heap.size w w'

set_option maxHeartbeats 8000000 in
theorem draw_two (A : Option Addr) (n c : Nat) (w : World) (h2 : n ≤ c) (hm : c ≤ maxLen) (h5 : Bytes w w.heap.size A n) :
    Calls Try.prog 5 #[.slice A n c] w (TwoEnd w) := by
  have Z : Obj := .cells #[.int .i64 0, .int .i64 0, .int .i64 0] 26
  have O2 := (Own.new w 26 #[.int .i64 0, .int .i64 0, .int .i64 0]).alloc (.cells #[.int .i64 0, .int .i64 0, .int .i64 0] 26)
  have O3 := Own.new (w.alloc (.cells #[.int .i64 0, .int .i64 0, .int .i64 0] 26)) 26 #[.int .i64 0, .int .i64 0, .int .i64 0]
  simp only [World.size_alloc] at O3
  have L0 : Below w.heap.size w ((w.alloc (.cells #[.int .i64 0, .int .i64 0, .int .i64 0] 26)).alloc (.cells #[.int .i64 0, .int .i64 0, .int .i64 0] 26)) := (by repeat (first | exact Below.refl _ _ | assumption | refine bel_drewN ?_ _ | refine bel_drew ?_ | refine bel_alloc ?_ _ | refine bel_set ?_ (by simp; omega) _ | refine bel_set ?_ (by simp) _ | refine bel_trans ?_ (by assumption)))
  have hby := (h5.below L0).more L0.size
  go_enter Try.func5, Try.ntmps5
  go_wp2_with fail
  generalize (w.alloc (.cells #[.int .i64 0, .int .i64 0, .int .i64 0] 26)).alloc (.cells #[.int .i64 0, .int .i64 0, .int .i64 0] 26) = W at *
  refine (open_any _ _ _ _ h2 hm hby).mono ?_
  rintro e w1 ⟨g, rfl, hr1, hb1⟩
  have P2 := O2.below hb1
  have P3 := O3.below hb1
  have hWz := L0.size
  have hgW := hr1.1
  have k2 := O2.lt
  have k3 := O3.lt
  have hne2 : w.heap.size ≠ g := by omega
  have hne3 : w.heap.size + 1 ≠ g := by omega
  have L1 := bel_trans L0 hb1
  clear O2 O3 hby h5
  go_wp2_with fail
  refine (l91_root _ g 0 (by omega) _ hr1).mono ?_
  rintro e w2 ⟨a, rfl, hr2, hg2⟩
  have Q2 := P2.pick hg2 hne2
  have Q3 := P3.pick hg2 hne3
  have L2 := L1.grown hg2 L1.size (fun k e => by injection e with e; omega)
  have hr3 := hr2.below (bel_alloc (Below.refl _ _) (.cells #[.int .i64 a.1, .int .i64 a.2.1, .int .i64 a.2.2] 26))
  have R2 := Q2.alloc (.cells #[.int .i64 a.1, .int .i64 a.2.1, .int .i64 a.2.2] 26)
  have R3 := Q3.alloc (.cells #[.int .i64 a.1, .int .i64 a.2.1, .int .i64 a.2.2] 26)
  have R5 := Own.new w2 26 #[.int .i64 a.1, .int .i64 a.2.1, .int .i64 a.2.2]
  have L3 := bel_alloc L2 (.cells #[.int .i64 a.1, .int .i64 a.2.1, .int .i64 a.2.2] 26)
  have hr2l := hr2.lt
  have hne5 : w2.heap.size ≠ g := by omega
  clear hg2 P2 P3 L1 hr1 Q2 Q3 L2 hr2
  go_wp2_with fail
  go_region_with (go_at_call 10; first
    | (refine (l91_root _ g 8 (by omega) _ (hr3.drewN 1)).mono ?_; rintro e w9 ⟨bb, rfl, hr9, hg9⟩
       have T2 := (R2.drew).pick hg9 hne2
       have T3 := (R3.drew).pick hg9 hne3
       have T5 := (R5.drew).pick hg9 hne5
       have L9 := (bel_drew L3).grown hg9 (bel_drew L3).size (fun k e => by injection e with e; omega)
       have t2 := T2.cell
       have t3 := T3.cell
       have t5 := T5.cell
       have u2 := T2.lt
       have u3 := T3.lt
       have u5 := T5.lt
       have v2 := T2.frozen
       have v3 := T3.frozen))
  all_goals
    go_wp2_with fail
    have F2 := (((((T2.set_ 0 (.int .i64 a.1)).set_ 1 (.int .i64 a.2.1)).set_ 2 (.int .i64 a.2.2)).far (p := ⟨w.heap.size + 1, 0, none⟩) (by simp) (.int .i64 bb.1)).far (p := ⟨w.heap.size + 1, 1, none⟩) (by simp) (.int .i64 bb.2.1)).far (p := ⟨w.heap.size + 1, 2, none⟩) (by simp) (.int .i64 bb.2.2)
    have F3 := (((((T3.far (p := ⟨w.heap.size, 0, none⟩) (by simp) (.int .i64 a.1)).far (p := ⟨w.heap.size, 1, none⟩) (by simp) (.int .i64 a.2.1)).far (p := ⟨w.heap.size, 2, none⟩) (by simp) (.int .i64 a.2.2)).set_ 0 (.int .i64 bb.1)).set_ 1 (.int .i64 bb.2.1)).set_ 2 (.int .i64 bb.2.2)
    have qF2 := F2.cell
    have qF3 := F3.cell
    exact bodyPost_ret (v := .tuple #[rtV a, rtV bb]) (by simp [results, Try.results5, go_sem, qF2, qF3, rtV]) rfl ⟨a, bb, rfl, bel_six L9 _ _ _ _ _ _⟩

end Go.Proofs.Ytefddmfnjneegaa
