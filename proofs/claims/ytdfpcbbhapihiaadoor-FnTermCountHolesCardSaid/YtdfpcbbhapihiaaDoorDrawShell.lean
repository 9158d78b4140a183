/-
  Contracts of the functions that draw a shell or a term.
-/
import Derived.Test.YtdfpcbbhapihiaaDoorDraw
namespace Go.Proofs.YtdfpcbbhapihiaaDoor
open Go.ChangeShapes Go.WideShapes Go.ChangeAt Go.RowKit Go.Deep Go.Joins
set_option linter.unusedVariables false

/-- what a draw of a term leaves -/
def TermEnd (w : World) (B g K : Nat) (e : Ending) (w' : World) : Prop :=
  ∃ a b : Int, e = .returned (.agg #[.int .i64 a, .int .i64 b]) ∧ (-1 ≤ a ∧ a ≤ 9 ∧ -1 ≤ b ∧ b ≤ 9) ∧ Rdr w' B g K ∧ w.grownBy w' (some g)

set_option maxHeartbeats 1000000 in
theorem l92_term (B g K : Nat) (hK : K ≤ 900000) (w : World) (hr : Rdr w B g K) :
    Calls Tryd.prog 30 #[.pointer (some ⟨g, 0, none⟩)] w (TermEnd w B g (K + 4)) := by
  have hgl := hr.lt
  have hBg := hr.1
  have hne0 : w.heap.size ≠ g := by omega
  go_enter Tryd.func30, Tryd.ntmps30
  go_wp2_with fail
  refine (pick_any B g K _ (by omega) _ ?_).mono ?_
  · exact hr.below (bel_alloc (Below.refl _ _) _)
  rintro e w1 ⟨x1, rfl, hx1, hy1, _, hr1, hg1⟩
  have hy1 := hy1 (by omega)
  have O1 := (Own.new w 32 #[.int .i64 0, .int .i64 0]).pick hg1 hne0
  have L1 := only_trans (only_alloc (World.grownBy.refl w (some g)) _) hg1
  clear hg1
  go_wp2_with fail
  refine (pick_any B g (K + 1) _ (by omega) _ hr1).mono ?_
  rintro e w2 ⟨x2, rfl, hx2, hy2, _, hr2, hg2⟩
  have hy2 := hy2 (by omega)
  have hne2 : w2.heap.size ≠ g := by have := hr2.lt; omega
  have O2 := O1.pick hg2 hne0
  have hl2 := O2.lt
  have L2 := only_trans L1 hg2
  clear hg2 O1 L1
  go_wp2_with fail
  refine (pick_any B g (K + 2) _ (by omega) _ ?_).mono ?_
  · exact hr2.below (bel_alloc (Below.refl _ _) _)
  rintro e w3 ⟨x3, rfl, hx3, hy3, _, hr3, hg3⟩
  have hy3 := hy3 (by omega)
  have O3 := (O2.alloc _).pick hg3 hne0
  have P3 := (Own.new w2 32 #[.int .i64 x1, .int .i64 x2]).pick hg3 hne2
  have L3 := only_trans (only_alloc L2 _) hg3
  have hl3 := P3.lt
  clear hg3 O2 L2
  have q1 := O3.cell
  have q2 := O3.frozen
  have q3 := P3.cell
  have q4 := P3.frozen
  by_cases c0 : x3 = 0
  · have d0 : (x3 == 0) = true := by simp [c0]
    clear c0
    go_wp2_with fail
    refine (pick_any B g (K + 3) _ (by omega) _ ?_).mono ?_
    · exact hr3.below (bel_alloc (Below.refl _ _) _)
    rintro e w4 ⟨x4, rfl, hx4, hy4, _, hr4, hg4⟩
    have hy4 := hy4 (by omega)
    have hne4 : w3.heap.size ≠ g := by have := hr3.lt; omega
    have O4 := (O3.alloc _).pick hg4 hne0
    have P4 := (P3.alloc _).pick hg4 hne2
    have Q4 := (Own.new w3 _ _).pick hg4 hne4
    have L4 := only_trans (only_alloc L3 _) hg4
    clear hg4 O3 P3 L3 q1 q2 q3 q4
    obtain ⟨v, hv0, hv1⟩ : ∃ v : Int, w4.cell? ⟨w3.heap.size, x4.toNat, none⟩ = some (.int .i64 v) ∧ -1 ≤ v ∧ v ≤ 9 := by
      rw [Q4.cell]
      obtain h | h | h : x4 = 0 ∨ x4 = 1 ∨ x4 = 2 := by omega
      · subst h; exact ⟨-1, rfl, by omega⟩
      · subst h; exact ⟨9, rfl, by omega⟩
      · subst h; exact ⟨8, rfl, by omega⟩
    have q1 := O4.cell
    have q2 := O4.frozen
    have q3 := P4.cell
    have q4 := P4.frozen
    have hl4 := P4.lt
    go_wp2_with fail
    refine bodyPost_ret (v := .agg #[.int .i64 v, .int .i64 x2]) (by simp [results, Tryd.results30, go_sem, q1]) rfl ?_
    exact ⟨v, x2, rfl, by omega, ((hr4.set_ (p := ⟨w2.heap.size, 0, none⟩) hne2 (by simp only; omega) _).set_ (p := ⟨w.heap.size, 0, none⟩) hne0 (by simp only; omega) _).set_ (p := ⟨w.heap.size, 1, none⟩) hne0 (by simp only; omega) _,
      only_set (only_set (only_set L4 (p := ⟨w2.heap.size, 0, none⟩) (by simp only; omega) _) (p := ⟨w.heap.size, 0, none⟩) (by simp) _) (p := ⟨w.heap.size, 1, none⟩) (by simp) _⟩
  · by_cases c1 : x3 = 1
    · have d0 : (x3 == 0) = false := by simp [c0]
      have d1 : (x3 == 1) = true := by simp [c1]
      clear c1
      go_wp2_with fail
      refine (pick_any B g (K + 3) _ (by omega) _ ?_).mono ?_
      · exact hr3.below (bel_alloc (Below.refl _ _) _)
      rintro e w4 ⟨x4, rfl, hx4, hy4, _, hr4, hg4⟩
      have hy4 := hy4 (by omega)
      have hne4 : w3.heap.size ≠ g := by have := hr3.lt; omega
      have O4 := (O3.alloc _).pick hg4 hne0
      have P4 := (P3.alloc _).pick hg4 hne2
      have Q4 := (Own.new w3 _ _).pick hg4 hne4
      have L4 := only_trans (only_alloc L3 _) hg4
      clear hg4 O3 P3 L3 q1 q2 q3 q4
      obtain ⟨v, hv0, hv1⟩ : ∃ v : Int, w4.cell? ⟨w3.heap.size, x4.toNat, none⟩ = some (.int .i64 v) ∧ -1 ≤ v ∧ v ≤ 9 := by
        rw [Q4.cell]
        obtain h | h | h : x4 = 0 ∨ x4 = 1 ∨ x4 = 2 := by omega
        · subst h; exact ⟨-1, rfl, by omega⟩
        · subst h; exact ⟨9, rfl, by omega⟩
        · subst h; exact ⟨8, rfl, by omega⟩
      have q1 := O4.cell
      have q2 := O4.frozen
      have q3 := P4.cell
      have q4 := P4.frozen
      have hl4 := P4.lt
      go_wp2_with fail
      refine bodyPost_ret (v := .agg #[.int .i64 x1, .int .i64 v]) (by simp [results, Tryd.results30, go_sem, q1]) rfl ?_
      exact ⟨x1, v, rfl, by omega, ((hr4.set_ (p := ⟨w2.heap.size, 1, none⟩) hne2 (by simp only; omega) _).set_ (p := ⟨w.heap.size, 0, none⟩) hne0 (by simp only; omega) _).set_ (p := ⟨w.heap.size, 1, none⟩) hne0 (by simp only; omega) _,
        only_set (only_set (only_set L4 (p := ⟨w2.heap.size, 1, none⟩) (by simp only; omega) _) (p := ⟨w.heap.size, 0, none⟩) (by simp) _) (p := ⟨w.heap.size, 1, none⟩) (by simp) _⟩
    · have d0 : (x3 == 0) = false := by simp [c0]
      have d1 : (x3 == 1) = false := by simp [c1]
      go_wp2_with fail
      refine bodyPost_ret (v := .agg #[.int .i64 x1, .int .i64 x2]) (by simp [results, Tryd.results30, go_sem, q1]) rfl ?_
      exact ⟨x1, x2, rfl, by omega, ((hr3.more (show K + 2 + 1 ≤ K + 4 by omega)).set_ (p := ⟨w.heap.size, 0, none⟩) hne0 (by simp only; omega) _).set_ (p := ⟨w.heap.size, 1, none⟩) hne0 (by simp only; omega) _,
        only_set (only_set L3 (p := ⟨w.heap.size, 0, none⟩) (by simp) _) (p := ⟨w.heap.size, 1, none⟩) (by simp) _⟩

/-- what a draw of a shell leaves -/
def ShellEnd (w : World) (B g K : Nat) (e : Ending) (w' : World) : Prop :=
  ∃ a b c : Int, e = .returned (.agg #[.int .i64 a, .int .i64 b, .int .i64 c]) ∧ (0 ≤ a ∧ a ≤ 8 ∧ 0 ≤ b ∧ b ≤ 8 ∧ 0 ≤ c ∧ c ≤ 15) ∧ Rdr w' B g K ∧ w.grownBy w' (some g)


/-- what a draw out of bytes leaves: a shell -/
def ShellOut (w : World) (e : Ending) (w' : World) : Prop :=
  ∃ a b c : Int, e = .returned (.agg #[.int .i64 a, .int .i64 b, .int .i64 c]) ∧ (0 ≤ a ∧ a ≤ 8 ∧ 0 ≤ b ∧ b ≤ 8 ∧ 0 ≤ c ∧ c ≤ 15) ∧ Below w.heap.size w w'
/-- what a draw out of bytes leaves: a term -/
def TermOut (w : World) (e : Ending) (w' : World) : Prop :=
  ∃ a b : Int, e = .returned (.agg #[.int .i64 a, .int .i64 b]) ∧ (-1 ≤ a ∧ a ≤ 9 ∧ -1 ≤ b ∧ b ≤ 9) ∧ Below w.heap.size w w'




end Go.Proofs.YtdfpcbbhapihiaaDoor
