/-
  Contracts of the functions that draw a shell or a term.
-/
import Derived.Test.YtgmdljlbiokcaaaDoorDraw
namespace Go.Proofs.YtgmdljlbiokcaaaDoor
open Go.ChangeShapes Go.WideShapes Go.ChangeAt Go.RowKit Go.Deep Go.Joins
set_option linter.unusedVariables false

/-- what a draw of a term leaves -/
def TermEnd (w : World) (B g K : Nat) (e : Ending) (w' : World) : Prop :=
  ∃ a b : Int, e = .returned (.agg #[.int .i64 a, .int .i64 b]) ∧ (-1 ≤ a ∧ a ≤ 9 ∧ -1 ≤ b ∧ b ≤ 9) ∧ Rdr w' B g K ∧ w.grownBy w' (some g)


/-- what a draw of a shell leaves -/
def ShellEnd (w : World) (B g K : Nat) (e : Ending) (w' : World) : Prop :=
  ∃ a b c : Int, e = .returned (.agg #[.int .i64 a, .int .i64 b, .int .i64 c]) ∧ (0 ≤ a ∧ a ≤ 8 ∧ 0 ≤ b ∧ b ≤ 8 ∧ 0 ≤ c ∧ c ≤ 15) ∧ Rdr w' B g K ∧ w.grownBy w' (some g)

set_option maxHeartbeats 2000000 in
theorem l91_shell (B g K : Nat) (hK : K ≤ 900000) (w : World) (hr : Rdr w B g K) :
    Calls Tryd.prog 28 #[.pointer (some ⟨g, 0, none⟩)] w (ShellEnd w B g (K + 5)) := by
  have hgl := hr.lt
  have hBg := hr.1
  have hne0 : w.heap.size ≠ g := by omega
  go_enter Tryd.func28, Tryd.ntmps28
  go_wp2_with fail
  refine (pick_any B g K _ (by omega) _ ?_).mono ?_
  · exact hr.below (bel_alloc (Below.refl _ _) _)
  rintro e w1 ⟨x1, rfl, hx1, hy1, _, hr1, hg1⟩
  have hy1 := hy1 (by omega)
  have O1 := (Own.new w 24 #[.int .i64 0, .int .i64 0, .int .i64 0]).pick hg1 hne0
  have L1 := only_trans (only_alloc (World.grownBy.refl w (some g)) _) hg1
  clear hg1
  by_cases hmin : 4 < 1 + x1
  all_goals
    go_wp2_with fail
    refine (pick_any B g (K + 1) _ (by omega) _ hr1).mono ?_
    rintro e w2 ⟨x2, rfl, hx2, hy2, _, hr2, hg2⟩
    have hy2 := hy2 (by omega)
    have O2 := O1.pick hg2 hne0
    have L2 := only_trans L1 hg2
    clear hg2 O1 L1
    go_wp2_with fail
    refine (pick_any B g (K + 2) _ (by omega) _ hr2).mono ?_
    rintro e w3 ⟨x3, rfl, hx3, hy3, _, hr3, hg3⟩
    have hy3 := hy3 (by omega)
    have hne3 : w3.heap.size ≠ g := by have := hr3.lt; omega
    have O3 := O2.pick hg3 hne0
    have hl3 := O3.lt
    have L3 := only_trans L2 hg3
    clear hg3 O2 L2
    go_wp2_with fail
    refine (pick_any B g (K + 3) _ (by omega) _ ?_).mono ?_
    · exact hr3.below (bel_alloc (Below.refl _ _) _)
    rintro e w4 ⟨x4, rfl, hx4, hy4, _, hr4, hg4⟩
    have hy4 := hy4 (by omega)
    have O4 := (O3.alloc _).pick hg4 hne0
    have P4 := (Own.new w3 24 #[.int .i64 (1 + x1), .int .i64 x2, .int .i64 (1 + x3)]).pick hg4 hne3
    have L4 := only_trans (only_alloc L3 _) hg4
    have hl4 := P4.lt
    clear hg4 O3 L3
    have q1 := O4.cell
    have q2 := O4.frozen
    have q3 := P4.cell
    have q4 := P4.frozen
    by_cases c0 : x4 = 0
    · have d0 : (x4 == 0) = true := by simp [c0]
      clear c0
      go_wp2_with fail
      refine bodyPost_ret (v := .agg #[.int .i64 (1 + x1), .int .i64 (1 + x1), .int .i64 (1 + x3)]) (by simp [results, Tryd.results28, go_sem, q1]) rfl ?_
      exact ⟨1 + x1, 1 + x1, 1 + x3, rfl, by omega, ((((hr4.more (show K + 3 + 1 ≤ K + 5 by omega)).set_ (p := ⟨w3.heap.size, 1, none⟩) hne3 (by simp only; omega) _).set_ (p := ⟨w.heap.size, 0, none⟩) hne0 (by simp only; omega) _).set_ (p := ⟨w.heap.size, 1, none⟩) hne0 (by simp only; omega) _).set_ (p := ⟨w.heap.size, 2, none⟩) hne0 (by simp only; omega) _,
        only_set (only_set (only_set (only_set L4 (p := ⟨w3.heap.size, 1, none⟩) (by simp only; omega) _) (p := ⟨w.heap.size, 0, none⟩) (by simp) _) (p := ⟨w.heap.size, 1, none⟩) (by simp) _) (p := ⟨w.heap.size, 2, none⟩) (by simp) _⟩
    · by_cases c1 : x4 = 1
      · have d0 : (x4 == 0) = false := by simp [c0]
        have d1 : (x4 == 1) = true := by simp [c1]
        clear c1
        go_wp2_with fail
        refine (pick_any B g (K + 4) _ (by omega) _ ?_).mono ?_
        · exact hr4.below (bel_alloc (Below.refl _ _) _)
        rintro e w5 ⟨x5, rfl, hx5, hy5, _, hr5, hg5⟩
        have hy5 := hy5 (by omega)
        have hne5 : w4.heap.size ≠ g := by have := hr4.lt; omega
        have O5 := (O4.alloc _).pick hg5 hne0
        have P5 := (P4.alloc _).pick hg5 hne3
        have Q5 := (Own.new w4 _ _).pick hg5 hne5
        have L5 := only_trans (only_alloc L4 _) hg5
        clear hg5 O4 P4 L4 q1 q2 q3 q4
        obtain ⟨v, hv0, hv1⟩ : ∃ v : Int, w5.cell? ⟨w4.heap.size, x5.toNat, none⟩ = some (.int .i64 v) ∧ 0 ≤ v ∧ v ≤ 15 := by
          rw [Q5.cell]
          obtain h | h : x5 = 0 ∨ x5 = 1 := by omega
          · subst h; exact ⟨0, rfl, by omega⟩
          · subst h; exact ⟨15, rfl, by omega⟩
        have q1 := O5.cell
        have q2 := O5.frozen
        have q3 := P5.cell
        have q4 := P5.frozen
        have hl5 := P5.lt
        go_wp2_with fail
        refine bodyPost_ret (v := .agg #[.int .i64 (1 + x1), .int .i64 x2, .int .i64 v]) (by simp [results, Tryd.results28, go_sem, q1]) rfl ?_
        exact ⟨(1 + x1), x2, v, rfl, by omega, (((hr5.set_ (p := ⟨w3.heap.size, 2, none⟩) hne3 (by simp only; omega) _).set_ (p := ⟨w.heap.size, 0, none⟩) hne0 (by simp only; omega) _).set_ (p := ⟨w.heap.size, 1, none⟩) hne0 (by simp only; omega) _).set_ (p := ⟨w.heap.size, 2, none⟩) hne0 (by simp only; omega) _,
          only_set (only_set (only_set (only_set L5 (p := ⟨w3.heap.size, 2, none⟩) (by simp only; omega) _) (p := ⟨w.heap.size, 0, none⟩) (by simp) _) (p := ⟨w.heap.size, 1, none⟩) (by simp) _) (p := ⟨w.heap.size, 2, none⟩) (by simp) _⟩
      · by_cases c2 : x4 = 2
        · have d0 : (x4 == 0) = false := by simp [c0]
          have d1 : (x4 == 1) = false := by simp [c1]
          have d2 : (x4 == 2) = true := by simp [c2]
          clear c2
          go_wp2_with fail
          refine (pick_any B g (K + 4) _ (by omega) _ ?_).mono ?_
          · exact hr4.below (bel_alloc (Below.refl _ _) _)
          rintro e w5 ⟨x5, rfl, hx5, hy5, _, hr5, hg5⟩
          have hy5 := hy5 (by omega)
          have hne5 : w4.heap.size ≠ g := by have := hr4.lt; omega
          have O5 := (O4.alloc _).pick hg5 hne0
          have P5 := (P4.alloc _).pick hg5 hne3
          have Q5 := (Own.new w4 _ _).pick hg5 hne5
          have L5 := only_trans (only_alloc L4 _) hg5
          clear hg5 O4 P4 L4 q1 q2 q3 q4
          obtain ⟨v, hv0, hv1⟩ : ∃ v : Int, w5.cell? ⟨w4.heap.size, x5.toNat, none⟩ = some (.int .i64 v) ∧ 0 ≤ v ∧ v ≤ 8 := by
            rw [Q5.cell]
            obtain h | h : x5 = 0 ∨ x5 = 1 := by omega
            · subst h; exact ⟨0, rfl, by omega⟩
            · subst h; exact ⟨8, rfl, by omega⟩
          have q1 := O5.cell
          have q2 := O5.frozen
          have q3 := P5.cell
          have q4 := P5.frozen
          have hl5 := P5.lt
          go_wp2_with fail
          refine bodyPost_ret (v := .agg #[.int .i64 v, .int .i64 x2, .int .i64 (1 + x3)]) (by simp [results, Tryd.results28, go_sem, q1]) rfl ?_
          exact ⟨v, x2, (1 + x3), rfl, by omega, (((hr5.set_ (p := ⟨w3.heap.size, 0, none⟩) hne3 (by simp only; omega) _).set_ (p := ⟨w.heap.size, 0, none⟩) hne0 (by simp only; omega) _).set_ (p := ⟨w.heap.size, 1, none⟩) hne0 (by simp only; omega) _).set_ (p := ⟨w.heap.size, 2, none⟩) hne0 (by simp only; omega) _,
            only_set (only_set (only_set (only_set L5 (p := ⟨w3.heap.size, 0, none⟩) (by simp only; omega) _) (p := ⟨w.heap.size, 0, none⟩) (by simp) _) (p := ⟨w.heap.size, 1, none⟩) (by simp) _) (p := ⟨w.heap.size, 2, none⟩) (by simp) _⟩
        · have d0 : (x4 == 0) = false := by simp [c0]
          have d1 : (x4 == 1) = false := by simp [c1]
          have d2 : (x4 == 2) = false := by simp [c2]
          go_wp2_with fail
          refine bodyPost_ret (v := .agg #[.int .i64 (1 + x1), .int .i64 x2, .int .i64 (1 + x3)]) (by simp [results, Tryd.results28, go_sem, q1]) rfl ?_
          exact ⟨1 + x1, x2, 1 + x3, rfl, by omega, (((hr4.more (show K + 3 + 1 ≤ K + 5 by omega)).set_ (p := ⟨w.heap.size, 0, none⟩) hne0 (by simp only; omega) _).set_ (p := ⟨w.heap.size, 1, none⟩) hne0 (by simp only; omega) _).set_ (p := ⟨w.heap.size, 2, none⟩) hne0 (by simp only; omega) _,
            only_set (only_set (only_set L4 (p := ⟨w.heap.size, 0, none⟩) (by simp) _) (p := ⟨w.heap.size, 1, none⟩) (by simp) _) (p := ⟨w.heap.size, 2, none⟩) (by simp) _⟩

/-- what a draw out of bytes leaves: a shell -/
def ShellOut (w : World) (e : Ending) (w' : World) : Prop :=
  ∃ a b c : Int, e = .returned (.agg #[.int .i64 a, .int .i64 b, .int .i64 c]) ∧ (0 ≤ a ∧ a ≤ 8 ∧ 0 ≤ b ∧ b ≤ 8 ∧ 0 ≤ c ∧ c ≤ 15) ∧ Below w.heap.size w w'
/-- what a draw out of bytes leaves: a term -/
def TermOut (w : World) (e : Ending) (w' : World) : Prop :=
  ∃ a b : Int, e = .returned (.agg #[.int .i64 a, .int .i64 b]) ∧ (-1 ≤ a ∧ a ≤ 9 ∧ -1 ≤ b ∧ b ≤ 9) ∧ Below w.heap.size w w'


theorem draw_shell_text (A : Option Addr) (n c : Nat) (w : World) (h2 : n ≤ c) (hm : c ≤ maxLen) (h5 : Bytes w w.heap.size A n) :
    Calls Tryd.prog 9 #[.slice A n c] w (ShellOut w) := by
  go_enter Tryd.func9, Tryd.ntmps9
  go_wp2_with fail
  refine (open_any _ _ _ _ h2 hm ((h5.below (bel_alloc (Below.refl _ _) _)).more (by simp))).mono ?_
  rintro e w1 ⟨g, rfl, hr1, hb1⟩
  have hBg : w.heap.size + 1 ≤ g := by have := hr1.1; simpa using this
  have hne : w.heap.size ≠ g := by omega
  have O1 := (Own.new w 24 #[.int .i64 0, .int .i64 0, .int .i64 0]).below hb1
  have L1 : Below w.heap.size w w1 := bel_trans (bel_alloc (Below.refl _ _) _) hb1
  clear hb1
  go_wp2_with fail
  refine (l91_shell _ g 0 (by omega) _ hr1).mono ?_
  rintro e w2 ⟨x, y, z, rfl, hx, hr2, hg2⟩
  have O2 := O1.pick hg2 hne
  have L2 := bel_only L1 (show w.heap.size ≤ g by omega) hg2
  clear hg2 O1 L1
  have q1 := O2.cell
  have q2 := O2.frozen
  have hl := O2.lt
  go_wp2_with fail
  refine bodyPost_ret (v := .agg #[.int .i64 x, .int .i64 y, .int .i64 z]) (by simp [results, Tryd.results9, go_sem, q1]) rfl ?_
  exact ⟨x, y, z, rfl, hx, bel_set (bel_set (bel_set L2 (p := ⟨w.heap.size, 0, none⟩) (by simp) _) (p := ⟨w.heap.size, 1, none⟩) (by simp) _) (p := ⟨w.heap.size, 2, none⟩) (by simp) _⟩


end Go.Proofs.YtgmdljlbiokcaaaDoor
