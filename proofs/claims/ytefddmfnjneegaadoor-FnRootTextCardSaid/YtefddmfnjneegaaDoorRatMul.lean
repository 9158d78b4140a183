/-
  Contracts on products of rationals that are not negative.
-/
import Derived.Test.YtefddmfnjneegaaDoorRat
namespace Go.Proofs.YtefddmfnjneegaaDoor
open Go.ChangeShapes Go.WideShapes Go.ChangeAt Go.RowKit Go.Deep Go.Joins
set_option linter.unusedVariables false
set_option maxRecDepth 100000

/-- lowest terms that fit -/
def redOk (N D : Nat) : Bool := decide (rn N D ≤ 1000000000) && decide (rd N D ≤ 1000000000)
theorem redOk_rat {N D : Nat} (hD : 0 < D) : ratB (rn N D : Int) (rd N D : Int) = redOk N D := by
  have hp := rd_pos (N := N) hD
  have hc := r_cop (N := N) hD
  have hg : Int.gcd (rn N D : Int) (rd N D : Int) = 1 := hc
  rw [Bool.eq_iff_iff, ratB_true, redOk, Bool.and_eq_true, decide_eq_true_eq, decide_eq_true_eq]
  constructor
  · rintro ⟨_, a, _, b, _⟩; omega
  · rintro ⟨a, b⟩; exact ⟨by omega, by omega, by omega, by omega, hg⟩
/-- what a call that makes a rational leaves -/
def RedEnd (N D : Nat) (w : World) (e : Ending) (w' : World) : Prop :=
  e = .returned (.tuple #[.agg #[.int .i64 (if redOk N D = true then (rn N D : Int) else 0), .int .i64 (if redOk N D = true then (rd N D : Int) else 0)], .bool (redOk N D)]) ∧ Below w.heap.size w w'
theorem red_end_no {N D : Nat} (h : redOk N D = false) {w w' : World} (hb : Below w.heap.size w w') : RedEnd N D w (.returned (.tuple #[.agg #[.int .i64 0, .int .i64 0], .bool false])) w' := by
  refine ⟨?_, hb⟩
  simp [h]
theorem red_end_yes {N D : Nat} (h : redOk N D = true) {w w' : World} (hb : Below w.heap.size w w') : RedEnd N D w (.returned (.tuple #[.agg #[.int .i64 (rn N D : Int), .int .i64 (rd N D : Int)], .bool true])) w' := by
  refine ⟨?_, hb⟩
  simp [h]


set_option maxHeartbeats 2000000 in
theorem spec_make (N D : Nat) (hN : N ≤ 1000000000000000000) (hD : 0 < D) (hD2 : D ≤ 1000000000000000000) (w : World) :
    Calls Tryd.prog 33 #[.int .i64 N, .int .i64 D] w (RedEnd N D w) := by
  have HA := Lib.hid (fun w => spec_abs (N : Int) (by omega) (by omega) w)
  have HA2 := Lib.hid (fun w => spec_abs (D : Int) (by omega) (by omega) w)
  rw [Int.natAbs_natCast] at HA HA2
  have HD := Lib.hid (fun w => spec_gcd N D (by omega) (by omega) w)
  have hg0 : 0 < Nat.gcd N D := Nat.gcd_pos_of_pos_right N hD
  have hgD : Nat.gcd N D ≤ D := Nat.gcd_le_right N hD
  have q1 : ((N : Int)).tdiv ((Nat.gcd N D : Nat) : Int) = ((rn N D : Nat) : Int) := rfl
  have q2 : ((D : Int)).tdiv ((Nat.gcd N D : Nat) : Int) = ((rd N D : Nat) : Int) := rfl
  have b1 : rn N D ≤ N := Nat.div_le_self _ _
  have b2 : rd N D ≤ D := Nat.div_le_self _ _
  have HV := Lib.hid (fun w => spec_rv (rn N D : Int) (rd N D : Int) w)
  have HO := Lib.hid (redOk_rat (N := N) hD)
  have HN := Lib.hid (fun h w w' hb => @red_end_no N D h w w' hb)
  have HY := Lib.hid (fun h w w' hb => @red_end_yes N D h w w' hb)
  obtain ⟨E, hE⟩ : ∃ E, RedEnd N D = E := ⟨_, rfl⟩
  rw [hE] at HN HY ⊢
  generalize Nat.gcd N D = g at *
  generalize rn N D = x at *
  generalize rd N D = y at *
  generalize redOk N D = b at *
  clear hE
  have w1 : IntKind.i64.wrap (x : Int) = x := IntWalk.i64_in _ (by omega)
  have w2 : IntKind.i64.wrap (y : Int) = y := IntWalk.i64_in _ (by omega)
  have dz : decide ((D : Int) < 0) = false := by simp
  have g0 : ((g : Int) == 0) = false := by simp; omega
  have O0 := Own.new w 27 #[.int .i64 0, .int .i64 0]
  cases b
  · go_enter Tryd.func33, Tryd.ntmps33
    go_wp2_with (first
      | (go_at_call 24; first | (refine (HA.out _).mono ?_; rintro e w' ⟨rfl, rfl⟩) | (refine (HA2.out _).mono ?_; rintro e w' ⟨rfl, rfl⟩))
      | (go_at_call 26; refine (HD.out _).mono ?_; rintro e w' ⟨rfl, rfl⟩))
    go_region
    go_wp2_with fail
    have O1 := O0.drew
    have O2 := O1.alloc (.cells #[.int .i64 x, .int .i64 y] 27)
    have O3 := Own.new (w.alloc (.cells #[.int .i64 0, .int .i64 0] 27)).drew 27 #[.int .i64 x, .int .i64 y]
    have L3 : Below w.heap.size w ((w.alloc (.cells #[.int .i64 0, .int .i64 0] 27)).drew.alloc (.cells #[.int .i64 x, .int .i64 y] 27)) := (by repeat (first | exact Below.refl _ _ | assumption | refine bel_drewN ?_ _ | refine bel_drew ?_ | refine bel_alloc ?_ _ | refine bel_set ?_ (by simp; omega) _ | refine bel_set ?_ (by simp) _ | refine bel_trans ?_ (by assumption)))
    refine (HV.out _).mono ?_
    rintro e wv ⟨rfl, hbv⟩
    have L4 := bel_trans L3 hbv
    have O4 := O2.below hbv
    have O7 := O3.below hbv
    simp at O7
    have q4 := O4.cell
    have q7 := O7.cell
    have l4 := O4.lt
    have l7 := O7.lt
    have f4 := O4.frozen
    rw [HO.out]
    clear O1 O2 O3 L3 hbv
    go_wp2_with fail
    exact bodyPost_ret (v := .tuple #[.agg #[.int .i64 0, .int .i64 0], .bool false]) (by simp [results, Tryd.results33, go_sem, q4]) rfl (HN.out (by simp) _ _ (by repeat (first | exact Below.refl _ _ | assumption | refine bel_drewN ?_ _ | refine bel_drew ?_ | refine bel_alloc ?_ _ | refine bel_set ?_ (by simp; omega) _ | refine bel_set ?_ (by simp) _ | refine bel_trans ?_ (by assumption))))
  · go_enter Tryd.func33, Tryd.ntmps33
    go_wp2_with (first
      | (go_at_call 24; first | (refine (HA.out _).mono ?_; rintro e w' ⟨rfl, rfl⟩) | (refine (HA2.out _).mono ?_; rintro e w' ⟨rfl, rfl⟩))
      | (go_at_call 26; refine (HD.out _).mono ?_; rintro e w' ⟨rfl, rfl⟩))
    go_region
    go_wp2_with fail
    have O1 := O0.drew
    have O2 := O1.alloc (.cells #[.int .i64 x, .int .i64 y] 27)
    have O3 := Own.new (w.alloc (.cells #[.int .i64 0, .int .i64 0] 27)).drew 27 #[.int .i64 x, .int .i64 y]
    have L3 : Below w.heap.size w ((w.alloc (.cells #[.int .i64 0, .int .i64 0] 27)).drew.alloc (.cells #[.int .i64 x, .int .i64 y] 27)) := (by repeat (first | exact Below.refl _ _ | assumption | refine bel_drewN ?_ _ | refine bel_drew ?_ | refine bel_alloc ?_ _ | refine bel_set ?_ (by simp; omega) _ | refine bel_set ?_ (by simp) _ | refine bel_trans ?_ (by assumption)))
    refine (HV.out _).mono ?_
    rintro e wv ⟨rfl, hbv⟩
    have L4 := bel_trans L3 hbv
    have O4 := O2.below hbv
    have O7 := O3.below hbv
    simp at O7
    have q4 := O4.cell
    have q7 := O7.cell
    have l4 := O4.lt
    have l7 := O7.lt
    have f4 := O4.frozen
    rw [HO.out]
    clear O1 O2 O3 L3 hbv
    go_wp2_with fail
    exact bodyPost_ret (v := .tuple #[.agg #[.int .i64 (x : Int), .int .i64 (y : Int)], .bool true]) (by simp [results, Tryd.results33, go_sem, q4]) rfl (HY.out (by simp) _ _ (by repeat (first | exact Below.refl _ _ | assumption | refine bel_drewN ?_ _ | refine bel_drew ?_ | refine bel_alloc ?_ _ | refine bel_set ?_ (by simp; omega) _ | refine bel_set ?_ (by simp) _ | refine bel_trans ?_ (by assumption))))

end Go.Proofs.YtefddmfnjneegaaDoor
