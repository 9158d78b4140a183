/-
  Contracts of the functions that draw the numbers for the laws of microstates.
-/
import Derived.Test.YtdfpcbbhapihiaaDoorDraw
namespace Go.Proofs.YtdfpcbbhapihiaaDoor
open Go.ChangeShapes Go.WideShapes Go.ChangeAt Go.RowKit Go.Deep Go.Joins
set_option linter.unusedVariables false

/-- what a draw of a filling leaves -/
def FillEnd (w : World) (B g K : Nat) (e : Ending) (w' : World) : Prop :=
  ∃ l n : Int, e = .returned (.tuple #[.int .i64 l, .int .i64 n]) ∧ (-1 ≤ l ∧ l ≤ 3 ∧ -1 ≤ n ∧ n ≤ 15) ∧ Rdr w' B g K ∧ w.grownBy w' (some g)
theorem two_get (a b : Int) {x : Int} (h0 : 0 ≤ x) (h1 : x < 2) : ∃ v : Int, (#[Value.int .i64 a, .int .i64 b] : Array Value)[x.toNat]? = some (.int .i64 v) ∧ (v = a ∨ v = b) := by
  have : x = 0 ∨ x = 1 := by omega
  rcases this with rfl | rfl
  · exact ⟨a, rfl, .inl rfl⟩
  · exact ⟨b, rfl, .inr rfl⟩
def absI (n : Int) : Int := if n < 0 then 0 - n else n
theorem ret_i {a b : Int} (h : a = b) : Ending.returned (.int .i64 a) = .returned (.int .i64 b) := by rw [h]
theorem abs_any (n : Int) (h0 : -100 ≤ n) (h1 : n ≤ 100) (w : World) : Calls Tryd.prog 26 #[.int .i64 n] w fun e w' => e = .returned (.int .i64 (absI n)) ∧ w = w' := by
  by_cases h : n < 0
  · have HC := Lib.hid (show absI n = 0 - n from if_pos h)
    go_enter Tryd.func26, Tryd.ntmps26
    go_wp2
    go_ret
    exact ⟨ret_i (by rw [HC.out]; omega), rfl⟩
  · have HC := Lib.hid (show absI n = n from if_neg h)
    go_enter Tryd.func26, Tryd.ntmps26
    go_wp2
    go_ret
    exact ⟨ret_i HC.out.symm, rfl⟩
theorem absI_bd {n : Int} (h0 : -1 ≤ n) (h1 : n ≤ 15) : 0 ≤ absI n ∧ absI n ≤ 15 := by unfold absI; split <;> omega

set_option maxHeartbeats 2000000 in
theorem l92_fill (B g K : Nat) (hK : K ≤ 900000) (w : World) (hr : Rdr w B g K) :
    Calls Tryd.prog 21 #[.pointer (some ⟨g, 0, none⟩)] w (FillEnd w B g (K + 5)) := by
  have hBg := hr.1
  go_enter Tryd.func21, Tryd.ntmps21
  go_wp2_with fail
  refine (pick_any B g K _ (by omega) _ hr).mono ?_
  rintro e w1 ⟨l, rfl, hl0, hl1, _, hr1, hg1⟩
  have hl1 := hl1 (by omega)
  go_wp2_with fail
  refine (pick_any B g (K + 1) _ (by omega) _ hr1).mono ?_
  rintro e w2 ⟨n, rfl, hn0, hn1, _, hr2, hg2⟩
  have hn1 := hn1 (by omega)
  have L2 := only_trans hg1 hg2
  go_wp2_with fail
  refine (pick_any B g (K + 2) _ (by omega) _ hr2).mono ?_
  rintro e w3 ⟨x, rfl, hx0, hx1, _, hr3, hg3⟩
  have hx1 := hx1 (by omega)
  have L3 := only_trans L2 hg3
  have hlt := hr3.lt
  clear hr hr1 hr2 hg1 hg2 hg3 L2
  by_cases c0 : x = 0
  · have d0 : (x == 0) = true := by simp [c0]
    clear c0
    go_wp2_with fail
    refine (pick_any B g (K + 3) _ (by omega) _ (hr3.below (bel_alloc (Below.refl _ _) _))).mono ?_
    rintro e w4 ⟨y, rfl, hy0, hy1, _, hr4, hg4⟩
    have hy1 := hy1 (by omega)
    have Q := (Own.new w3 3 #[.int .i64 (-1), .int .i64 3]).pick hg4 (by omega)
    have ql := Q.lt
    obtain ⟨v, hv, hv'⟩ : ∃ v : Int, w4.cell? ⟨w3.heap.size, y.toNat, none⟩ = some (.int .i64 v) ∧ (v = -1 ∨ v = 3) := by rw [Q.cell]; exact two_get (-1) 3 hy0 hy1
    have HV := Lib.hid hv'
    have L4 := only_trans (only_alloc L3 _) hg4
    clear hv' hr3 hg4
    go_wp2_with fail
    go_ret2
    exact ⟨v, n, rfl, by have := HV.out; omega, hr4.more (by omega), L4⟩
  · have d0 : (x == 0) = false := by simp [c0]
    by_cases c1 : x = 1
    · have d1 : (x == 1) = true := by simp [c1]
      clear c1 c0
      have e1 : IntKind.i64.wrap (4 * l) = 4 * l := IntWalk.i64_in _ (by omega)
      have e2 : IntKind.i64.wrap (4 * l + 3) = 4 * l + 3 := IntWalk.i64_in _ (by omega)
      go_wp2_with fail
      go_region_with (go_at_call 22; first
        | (refine (pick_any B g (K + 3) _ (by omega) _ (hr3.below (bel_drew (Below.refl _ _)))).mono ?_; rintro e w4 ⟨y, rfl, hy0, hy1, _, hr4, hg4⟩; have hy1 := hy1 (by omega); have L4 := only_trans (only_drew L3) hg4)
        | (refine (pick_any B g (K + 3) _ (by omega) _ (hr3.below (bel_alloc (bel_drew (Below.refl _ _)) _))).mono ?_; rintro e w4 ⟨y, rfl, hy0, hy1, _, hr4, hg4⟩; have hy1 := hy1 (by omega); have Q := (Own.new w3.drew _ _).pick hg4 (by simp; omega); obtain ⟨v, hv, hv'⟩ : ∃ v : Int, w4.cell? ⟨w3.heap.size, y.toNat, none⟩ = some (.int .i64 v) ∧ (v = -1 ∨ v = 4 * l + 3) := (by rw [show w4.cell? ⟨w3.heap.size, y.toNat, none⟩ = _ from Q.cell _]; exact two_get (-1) (4 * l + 3) hy0 hy1); have L4 := only_trans (only_alloc (only_drew L3) _) hg4; clear Q))
      · clear hr3 hg4
        go_wp2_with fail
        go_ret2
        exact ⟨l, v, rfl, by omega, hr4.more (by omega), L4⟩
      · clear hr3 hg4
        obtain rfl | rfl : y = 0 ∨ y = 1 := by omega
        · go_wp2_with fail
          go_ret2
          exact ⟨l, -1, rfl, by omega, (hr4.below (bel_alloc (Below.refl _ _) _)).more (by omega), only_alloc L4 _⟩
        · go_wp2_with fail
          go_ret2
          exact ⟨l, 4 * l + 3, rfl, by omega, (hr4.below (bel_alloc (Below.refl _ _) _)).more (by omega), only_alloc L4 _⟩
    · have d1 : (x == 1) = false := by simp [c1]
      go_wp2_with fail
      go_ret2
      exact ⟨_, _, rfl, by omega, hr3.more (by omega), L3⟩

/-- what a draw of numbers of microstates leaves -/
def McEnd (w : World) (e : Ending) (w' : World) : Prop :=
  ∃ l n o s : Int, e = .returned (.tuple #[.int .i64 l, .int .i64 n, .int .i64 o, .int .i64 s]) ∧ (-1 ≤ l ∧ l ≤ 3 ∧ -1 ≤ n ∧ n ≤ 15 ∧ -8 ≤ o ∧ o ≤ 8 ∧ -6 ≤ s ∧ s ≤ 6) ∧ Below w.heap.size w w'
set_option maxHeartbeats 2000000 in
theorem draw_mc (A : Option Addr) (n c : Nat) (w : World) (h2 : n ≤ c) (hm : c ≤ maxLen) (h5 : Bytes w w.heap.size A n) :
    Calls Tryd.prog 11 #[.slice A n c] w (McEnd w) := by
  go_enter Tryd.func11, Tryd.ntmps11
  go_wp2_with fail
  refine (open_any _ _ _ _ h2 hm h5).mono ?_
  rintro e w1 ⟨g, rfl, hr1, L1⟩
  have hBg := hr1.1
  go_wp2_with fail
  refine (l92_fill _ g 0 (by omega) _ hr1).mono ?_
  rintro e w2 ⟨l, n, rfl, hb, hr2, hg2⟩
  obtain ⟨b1, b2, b3, b4⟩ := hb
  have L2 := bel_only L1 hBg hg2
  clear hr1 L1 hg2
  go_wp2_with fail
  refine (pick_any _ g _ _ (by omega) _ hr2).mono ?_
  rintro e w3 ⟨o, rfl, ho0, ho1, _, hr3, hg3⟩
  have ho1 := ho1 (by omega)
  have L3 := bel_only L2 hBg hg3
  clear hr2 L2 hg3
  go_wp2_with fail
  refine (pick_any _ g _ _ (by omega) _ hr3).mono ?_
  rintro e w4 ⟨s, rfl, hs0, hs1, _, hr4, hg4⟩
  have hs1 := hs1 (by omega)
  have L4 := bel_only L3 hBg hg4
  have ab := absI_bd b3 b4
  obtain ⟨ab0, ab1⟩ := ab
  clear hr3 L3 hg4
  go_wp2_with fail
  refine (abs_any n (by omega) (by omega) _).mono ?_
  rintro e w' ⟨rfl, rfl⟩
  generalize absI n = m at *
  go_wp2_with fail
  refine (pick_any _ g _ _ (by omega) _ hr4).mono ?_
  rintro e w5 ⟨x, rfl, hx0, hx1, _, hr5, hg5⟩
  have hx1 := hx1 (by omega)
  have L5 := bel_only L4 hBg hg5
  clear hr4 L4 hg5
  cases hx : x == 0
  · go_wp2_with fail
    exact bodyPost_ret (v := .tuple #[.int .i64 l, .int .i64 n, .int .i64 (o - 2), .int .i64 (2 * s - 2 + m % 2)]) (by simp [results, Tryd.results11, go_sem]) rfl ⟨_, _, _, _, rfl, by omega, L5⟩
  · go_wp2_with fail
    refine (pick_any _ g _ _ (by omega) _ hr5).mono ?_
    rintro e w6 ⟨y, rfl, hy0, hy1, _, hr6, hg6⟩
    have hy1 := hy1 (by omega)
    have L6 := bel_only L5 hBg hg6
    clear hr5 L5 hg6
    go_wp2_with fail
    refine (pick_any _ g _ _ (by omega) _ hr6).mono ?_
    rintro e w7 ⟨z, rfl, hz0, hz1, _, hr7, hg7⟩
    have hz1 := hz1 (by omega)
    have L7 := bel_only L6 hBg hg7
    clear hr6 L6 hg7
    go_wp2_with fail
    exact bodyPost_ret (v := .tuple #[.int .i64 l, .int .i64 n, .int .i64 (y - 8), .int .i64 (z - 6)]) (by simp [results, Tryd.results11, go_sem]) rfl ⟨_, _, _, _, rfl, by omega, L7⟩

/-- what a draw of three numbers for the greatest sums leaves -/
def TopEnd (w : World) (e : Ending) (w' : World) : Prop :=
  ∃ l n y : Int, e = .returned (.tuple #[.int .i64 l, .int .i64 n, .int .i64 y]) ∧ (-1 ≤ l ∧ l ≤ 3 ∧ -1 ≤ n ∧ n ≤ 15 ∧ -2 ≤ y ∧ y ≤ 5) ∧ Below w.heap.size w w'
set_option maxHeartbeats 2000000 in
theorem draw_mo (A : Option Addr) (n c : Nat) (w : World) (h2 : n ≤ c) (hm : c ≤ maxLen) (h5 : Bytes w w.heap.size A n) :
    Calls Tryd.prog 14 #[.slice A n c] w (TopEnd w) := by
  go_enter Tryd.func14, Tryd.ntmps14
  go_wp2_with fail
  refine (open_any _ _ _ _ h2 hm h5).mono ?_
  rintro e w1 ⟨g, rfl, hr1, L1⟩
  have hBg := hr1.1
  go_wp2_with fail
  refine (l92_fill _ g 0 (by omega) _ hr1).mono ?_
  rintro e w2 ⟨l, n, rfl, hb, hr2, hg2⟩
  obtain ⟨b1, b2, b3, b4⟩ := hb
  have L2 := bel_only L1 hBg hg2
  have ab := absI_bd b3 b4
  obtain ⟨ab0, ab1⟩ := ab
  clear hr1 L1 hg2
  go_wp2_with fail
  refine (abs_any n (by omega) (by omega) _).mono ?_
  rintro e w' ⟨rfl, rfl⟩
  generalize absI n = m at *
  go_wp2_with fail
  refine (pick_any _ g _ _ (by omega) _ hr2).mono ?_
  rintro e w3 ⟨o, rfl, ho0, ho1, _, hr3, hg3⟩
  have ho1 := ho1 (by omega)
  have L3 := bel_only L2 hBg hg3
  clear hr2 L2 hg3
  go_wp2_with fail
  refine (pick_any _ g _ _ (by omega) _ hr3).mono ?_
  rintro e w4 ⟨s, rfl, hs0, hs1, _, hr4, hg4⟩
  have hs1 := hs1 (by omega)
  have L4 := bel_only L3 hBg hg4
  clear hr3 L3 hg4
  go_wp2_with fail
  exact bodyPost_ret (v := .tuple #[.int .i64 l, .int .i64 n, .int .i64 (m % 2 + 2 * o - s / 11)]) (by simp [results, Tryd.results14, go_sem]) rfl ⟨_, _, _, rfl, by omega, L4⟩
set_option maxHeartbeats 2000000 in
theorem draw_mp (A : Option Addr) (n c : Nat) (w : World) (h2 : n ≤ c) (hm : c ≤ maxLen) (h5 : Bytes w w.heap.size A n) :
    Calls Tryd.prog 7 #[.slice A n c] w (TopEnd w) := by
  go_enter Tryd.func7, Tryd.ntmps7
  go_wp2_with fail
  refine (open_any _ _ _ _ h2 hm h5).mono ?_
  rintro e w1 ⟨g, rfl, hr1, L1⟩
  have hBg := hr1.1
  go_wp2_with fail
  refine (l92_fill _ g 0 (by omega) _ hr1).mono ?_
  rintro e w2 ⟨l, n, rfl, hb, hr2, hg2⟩
  obtain ⟨b1, b2, b3, b4⟩ := hb
  have L2 := bel_only L1 hBg hg2
  clear hr1 L1 hg2
  go_wp2_with fail
  refine (pick_any _ g _ _ (by omega) _ hr2).mono ?_
  rintro e w3 ⟨o, rfl, ho0, ho1, _, hr3, hg3⟩
  have ho1 := ho1 (by omega)
  have L3 := bel_only L2 hBg hg3
  clear hr2 L2 hg3
  go_wp2_with fail
  exact bodyPost_ret (v := .tuple #[.int .i64 l, .int .i64 n, .int .i64 (o - 2)]) (by simp [results, Tryd.results7, go_sem]) rfl ⟨_, _, _, rfl, by omega, L3⟩

end Go.Proofs.YtdfpcbbhapihiaaDoor
