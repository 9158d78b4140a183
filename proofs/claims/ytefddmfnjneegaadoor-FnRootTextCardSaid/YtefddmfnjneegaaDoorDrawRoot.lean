/-
  Draws of rationals and of roots. (Printed by wip/mk_draw.py.)
-/
import Derived.Test.YtefddmfnjneegaaDoorRootW
import Derived.Test.YtefddmfnjneegaaDoorDraw
namespace Go.Proofs.YtefddmfnjneegaaDoor
open Go.ChangeShapes Go.WideShapes Go.ChangeAt Go.RowKit Go.Deep Go.Joins
set_option linter.unusedVariables false
set_option maxRecDepth 100000

theorem impl_times (s n d : Int) (hs : -1 ≤ s ∧ s ≤ 1) (w : World) : Calls Tryd.prog 17 #[.agg #[.int .i64 s, .int .i64 n, .int .i64 d], .int .i64 (-1)] w fun e w' => e = .returned (.agg #[.int .i64 (-s), .int .i64 n, .int .i64 d]) ∧ Below w.heap.size w w' := by
  have e1 : s * -1 = -s := by omega
  have w1 : IntKind.i64.wrap (-s) = -s := IntWalk.i64_in _ (by omega)
  go_enter Tryd.func17, Tryd.ntmps17
  go_wp2_with fail
  exact bodyPost_ret (v := .agg #[.int .i64 (-s), .int .i64 n, .int .i64 d]) (by simp [results, Tryd.results17, go_sem]) rfl ⟨rfl, (by repeat (first | exact Below.refl _ _ | assumption | refine bel_drewN ?_ _ | refine bel_drew ?_ | refine bel_alloc ?_ _ | refine bel_set ?_ (by simp; omega) _ | refine bel_set ?_ (by simp) _ | refine bel_trans ?_ (by assumption)))⟩

set_option maxHeartbeats 2000000 in
theorem impl_neg (a : Rt) (w : World) : Calls Tryd.prog 9 #[rtV a] w fun e w' => e = .returned (.tuple #[rtV (negV a), .bool (okR a)]) ∧ Below w.heap.size w w' := by
  have P10 := (Own.new w 29 #[.int .i64 a.1, .int .i64 a.2.1, .int .i64 a.2.2]).alloc (.cells #[.int .i64 0, .int .i64 0, .int .i64 0] 29)
  have P20 := Own.new (w.alloc (.cells #[.int .i64 a.1, .int .i64 a.2.1, .int .i64 a.2.2] 29)) 29 #[.int .i64 0, .int .i64 0, .int .i64 0]
  simp only [World.size_alloc] at P20
  have L0 : Below w.heap.size w ((w.alloc (.cells #[.int .i64 a.1, .int .i64 a.2.1, .int .i64 a.2.2] 29)).alloc (.cells #[.int .i64 0, .int .i64 0, .int .i64 0] 29)) := (by repeat (first | exact Below.refl _ _ | assumption | refine bel_drewN ?_ _ | refine bel_drew ?_ | refine bel_alloc ?_ _ | refine bel_set ?_ (by simp; omega) _ | refine bel_set ?_ (by simp) _ | refine bel_trans ?_ (by assumption)))
  cases ha : okR a
  · have HE := Lib.hid (show negV a = (0, 0, 0) by simp [negV, ha])
    have HA := Lib.hid (show rtB a.1 a.2.1 a.2.2 = false from ha)
    clear ha
    go_enter Tryd.func9, Tryd.ntmps9
    go_wp2_with fail
    refine (impl_rtv _ _ _ _).mono ?_
    rintro e w1 ⟨rfl, hb1⟩
    have P1 := P10.below hb1
    have P2 := P20.below hb1
    have L1 := bel_trans L0 hb1
    have q2 := P2.cell
    have k2 := P2.lt
    have f2 := P2.frozen
    rw [HA.out]
    go_wp2_with fail
    exact bodyPost_ret (v := .tuple #[.agg #[.int .i64 0, .int .i64 0, .int .i64 0], .bool false]) (by simp [results, Tryd.results9, go_sem, q2]) rfl ⟨by rw [HE.out], (by repeat (first | exact Below.refl _ _ | assumption | refine bel_drewN ?_ _ | refine bel_drew ?_ | refine bel_alloc ?_ _ | refine bel_set ?_ (by simp; omega) _ | refine bel_set ?_ (by simp) _ | refine bel_trans ?_ (by assumption)))⟩
  · have h := okR_true.1 ha
    have HE := Lib.hid (show negV a = (-a.1, a.2.1, a.2.2) by simp [negV, ha])
    have HA := Lib.hid (show rtB a.1 a.2.1 a.2.2 = true from ha)
    have HT := Lib.hid (fun w => impl_times a.1 a.2.1 a.2.2 h.1 w)
    clear ha h
    go_enter Tryd.func9, Tryd.ntmps9
    go_wp2_with fail
    refine (impl_rtv _ _ _ _).mono ?_
    rintro e w1 ⟨rfl, hb1⟩
    have P1 := P10.below hb1
    have P2 := P20.below hb1
    have L1 := bel_trans L0 hb1
    have q1 := P1.cell
    have k1 := P1.lt
    rw [HA.out]
    clear P10 P20 L0 hb1
    go_wp2_with fail
    refine (HT.out _).mono ?_
    rintro e w2 ⟨rfl, hb2⟩
    have P3 := P2.below hb2
    have L2 := bel_trans L1 hb2
    have q2 := P3.cell
    have k2 := P3.lt
    have f2 := P3.frozen
    go_wp2_with fail
    exact bodyPost_ret (v := .tuple #[.agg #[.int .i64 (-a.1), .int .i64 a.2.1, .int .i64 a.2.2], .bool true]) (by simp [results, Tryd.results9, go_sem, q2]) rfl ⟨by rw [HE.out], (by repeat (first | exact Below.refl _ _ | assumption | refine bel_drewN ?_ _ | refine bel_drew ?_ | refine bel_alloc ?_ _ | refine bel_set ?_ (by simp; omega) _ | refine bel_set ?_ (by simp) _ | refine bel_trans ?_ (by assumption)))⟩

/-- a call that makes some rational -/
def SomeRat (w : World) (e : Ending) (w' : World) : Prop := ∃ (x y : Int) (b : Bool), e = .returned (.tuple #[.agg #[.int .i64 x, .int .i64 y], .bool b]) ∧ (-1000000000 ≤ x ∧ x ≤ 1000000000) ∧ Below w.heap.size w w'

set_option maxHeartbeats 2000000 in
theorem spec_make_any (n : Int) (D : Nat) (hn : -1000000000 ≤ n ∧ n ≤ 1000000000) (hD : 0 < D) (hD2 : D ≤ 1000000000) (w : World) : Calls Tryd.prog 33 #[.int .i64 n, .int .i64 D] w (SomeRat w) := by
  have HA := Lib.hid (fun w => spec_abs n (by omega) (by omega) w)
  have HA2 := Lib.hid (fun w => spec_abs (D : Int) (by omega) (by omega) w)
  rw [Int.natAbs_natCast] at HA2
  have HD := Lib.hid (fun w => spec_gcd n.natAbs D (by omega) (by omega) w)
  have hg0 : 0 < Nat.gcd n.natAbs D := Nat.gcd_pos_of_pos_right _ hD
  have hx : (n.tdiv ((Nat.gcd n.natAbs D : Nat) : Int)).natAbs ≤ n.natAbs := by
    rw [Int.natAbs_tdiv]
    exact Nat.div_le_self _ _
  have q2 : ((D : Int)).tdiv ((Nat.gcd n.natAbs D : Nat) : Int) = ((D / Nat.gcd n.natAbs D : Nat) : Int) := rfl
  have b2 : D / Nat.gcd n.natAbs D ≤ D := Nat.div_le_self _ _
  generalize D / Nat.gcd n.natAbs D = yn at *
  generalize Nat.gcd n.natAbs D = g at *
  obtain ⟨x, q1⟩ : ∃ x, n.tdiv (g : Int) = x := ⟨_, rfl⟩
  rw [q1] at hx
  obtain ⟨y, hy⟩ : ∃ y : Int, (yn : Int) = y := ⟨_, rfl⟩
  rw [hy] at q2
  have xb : -1000000000 ≤ x ∧ x ≤ 1000000000 := by omega
  have HV := Lib.hid (fun w => spec_rv x y w)
  generalize n.natAbs = m at *
  have w1 : IntKind.i64.wrap x = x := IntWalk.i64_in _ (by omega)
  have w2 : IntKind.i64.wrap y = y := IntWalk.i64_in _ (by omega)
  have dz : decide ((D : Int) < 0) = false := by simp
  have g0 : ((g : Int) == 0) = false := by simp; omega
  clear hx hy
  have O0 := Own.new w 27 #[.int .i64 0, .int .i64 0]
  cases hb : ratB x y
  · have HB := Lib.hid hb
    clear hb
    go_enter Tryd.func33, Tryd.ntmps33
    go_wp2_with (first
      | (go_at_call 24; first | (refine (HA.out _).mono ?_; rintro e w' ⟨rfl, rfl⟩) | (refine (HA2.out _).mono ?_; rintro e w' ⟨rfl, rfl⟩))
      | (go_at_call 26; refine (HD.out _).mono ?_; rintro e w' ⟨rfl, rfl⟩))
    go_region
    go_wp2_with fail
    have O1 := O0.drew
    have O2 := O1.alloc (.cells #[.int .i64 x, .int .i64 y] 27)
    have O3 := Own.new (w.alloc (.cells #[.int .i64 0, .int .i64 0] 27)).drew 27 #[.int .i64 x, .int .i64 y]
    have L3 : Below w.heap.size w ((w.alloc (.cells #[.int .i64 0, .int .i64 0] 27)).drew.alloc (.cells #[.int .i64 x, .int .i64 y] 27)) := (by repeat (first | exact Below.refl _ _ | assumption | refine bel_drewN ?_ _ | refine bel_drew ?_ | refine bel_alloc ?_ _ | refine bel_set ?_ (by simp; omega) _ | refine bel_set ?_ (by simp) _ | refine bel_trans ?_ (by assumption)))
    refine (HV.out _).mono ?_
    rintro e wv ⟨rfl, hbv⟩
    have L4 := bel_trans L3 hbv
    have O4 := O2.below hbv
    have O7 := O3.below hbv
    simp at O7
    have q4 := O4.cell
    have q7 := O7.cell
    have l4 := O4.lt
    have l7 := O7.lt
    have f4 := O4.frozen
    rw [HB.out]
    clear O1 O2 O3 L3 hbv
    go_wp2_with fail
    exact bodyPost_ret (v := .tuple #[.agg #[.int .i64 0, .int .i64 0], .bool false]) (by simp [results, Tryd.results33, go_sem, q4]) rfl ⟨0, 0, false, rfl, by omega, (by repeat (first | exact Below.refl _ _ | assumption | refine bel_drewN ?_ _ | refine bel_drew ?_ | refine bel_alloc ?_ _ | refine bel_set ?_ (by simp; omega) _ | refine bel_set ?_ (by simp) _ | refine bel_trans ?_ (by assumption)))⟩
  · have HB := Lib.hid hb
    clear hb
    go_enter Tryd.func33, Tryd.ntmps33
    go_wp2_with (first
      | (go_at_call 24; first | (refine (HA.out _).mono ?_; rintro e w' ⟨rfl, rfl⟩) | (refine (HA2.out _).mono ?_; rintro e w' ⟨rfl, rfl⟩))
      | (go_at_call 26; refine (HD.out _).mono ?_; rintro e w' ⟨rfl, rfl⟩))
    go_region
    go_wp2_with fail
    have O1 := O0.drew
    have O2 := O1.alloc (.cells #[.int .i64 x, .int .i64 y] 27)
    have O3 := Own.new (w.alloc (.cells #[.int .i64 0, .int .i64 0] 27)).drew 27 #[.int .i64 x, .int .i64 y]
    have L3 : Below w.heap.size w ((w.alloc (.cells #[.int .i64 0, .int .i64 0] 27)).drew.alloc (.cells #[.int .i64 x, .int .i64 y] 27)) := (by repeat (first | exact Below.refl _ _ | assumption | refine bel_drewN ?_ _ | refine bel_drew ?_ | refine bel_alloc ?_ _ | refine bel_set ?_ (by simp; omega) _ | refine bel_set ?_ (by simp) _ | refine bel_trans ?_ (by assumption)))
    refine (HV.out _).mono ?_
    rintro e wv ⟨rfl, hbv⟩
    have L4 := bel_trans L3 hbv
    have O4 := O2.below hbv
    have O7 := O3.below hbv
    simp at O7
    have q4 := O4.cell
    have q7 := O7.cell
    have l4 := O4.lt
    have l7 := O7.lt
    have f4 := O4.frozen
    rw [HB.out]
    clear O1 O2 O3 L3 hbv
    go_wp2_with fail
    exact bodyPost_ret (v := .tuple #[.agg #[.int .i64 x, .int .i64 y], .bool true]) (by simp [results, Tryd.results33, go_sem, q4]) rfl ⟨x, y, true, rfl, xb, (by repeat (first | exact Below.refl _ _ | assumption | refine bel_drewN ?_ _ | refine bel_drew ?_ | refine bel_alloc ?_ _ | refine bel_set ?_ (by simp; omega) _ | refine bel_set ?_ (by simp) _ | refine bel_trans ?_ (by assumption)))⟩

set_option maxHeartbeats 2000000 in
theorem spec_rof_any (n d : Int) (hn : -1000000000 ≤ n ∧ n ≤ 1000000000) (hd : 1 ≤ d ∧ d ≤ 1000000000) (w : World) : Calls Tryd.prog 30 #[.int .i64 n, .int .i64 d] w (SomeRat w) := by
  obtain ⟨D, rfl⟩ := Int.eq_ofNat_of_zero_le (show 0 ≤ d by omega)
  have HM := Lib.hid (fun w => spec_make_any n D hn (by omega) (by omega) w)
  have i1 : inB n (-4000000000000000000) 4000000000000000000 = true := inB_true.2 (by omega)
  have i2 : inB (D : Int) (-4000000000000000000) 4000000000000000000 = true := inB_true.2 (by omega)
  have d0 : ((D : Int) == 0) = false := by simp; omega
  have O0 := Own.new w 27 #[.int .i64 0, .int .i64 0]
  go_enter Tryd.func30, Tryd.ntmps30
  go_wp2_with (go_at_call 18; refine (in_any _ _ _ _).mono ?_; rintro e w' ⟨rfl, rfl⟩)
  refine (HM.out _).mono ?_
  rintro e w1 ⟨x, y, b, rfl, hx, hb1⟩
  have O1 := O0.below hb1
  have L1 := bel_trans (bel_alloc (Below.refl _ _) _) hb1
  have q1 := O1.cell
  have k1 := O1.lt
  have f1 := O1.frozen
  go_wp2_with fail
  exact bodyPost_ret (v := .tuple #[.agg #[.int .i64 x, .int .i64 y], .bool b]) (by simp [results, Tryd.results30, go_sem, q1]) rfl ⟨x, y, b, rfl, hx, (by repeat (first | exact Below.refl _ _ | assumption | refine bel_drewN ?_ _ | refine bel_drew ?_ | refine bel_alloc ?_ _ | refine bel_set ?_ (by simp; omega) _ | refine bel_set ?_ (by simp) _ | refine bel_trans ?_ (by assumption)))⟩

theorem l91_small (B g K : Nat) (hK : K ≤ 900000) (w : World) (hr : Rdr w B g K) : Calls Tryd.prog 29 #[.pointer (some ⟨g, 0, none⟩)] w fun e w' => ∃ x : Int, e = .returned (.int .i64 x) ∧ (-20 ≤ x ∧ x ≤ 20) ∧ Rdr w' B g (K + 1) ∧ w.grownBy w' (some g) := by
  go_enter Tryd.func29, Tryd.ntmps29
  go_wp2_with fail
  refine (pick_any B g K _ (by omega) _ hr).mono ?_
  rintro e w1 ⟨x, rfl, hx, hy, _, hr1, hg1⟩
  have hy := hy (by omega)
  go_wp2_with fail
  go_ret
  exact ⟨_, rfl, by omega, hr1, hg1⟩

/-- what a draw of a rational leaves -/
def RatEnd (w : World) (B g K : Nat) (e : Ending) (w' : World) : Prop :=
  ∃ x y : Int, e = .returned (.agg #[.int .i64 x, .int .i64 y]) ∧ (-1000000000 ≤ x ∧ x ≤ 1000000000) ∧ Rdr w' B g K ∧ w.grownBy w' (some g)
def numsA : Array Value := #[.int .i64 999999999, .int .i64 1000000000, .int .i64 (-1000000000), .int .i64 500000000]
def numsB : Array Value := #[.int .i64 1000000000, .int .i64 999999999, .int .i64 999999937, .int .i64 65536]
theorem numsA_get {i : Nat} (h : i < 4) : ∃ x : Int, numsA[i]? = some (.int .i64 x) ∧ -1000000000 ≤ x ∧ x ≤ 1000000000 := by
  match i, h with
  | 0, _ => exact ⟨999999999, rfl, by decide, by decide⟩
  | 1, _ => exact ⟨1000000000, rfl, by decide, by decide⟩
  | 2, _ => exact ⟨-1000000000, rfl, by decide, by decide⟩
  | 3, _ => exact ⟨500000000, rfl, by decide, by decide⟩
theorem numsB_get {i : Nat} (h : i < 4) : ∃ x : Int, numsB[i]? = some (.int .i64 x) ∧ 1 ≤ x ∧ x ≤ 1000000000 := by
  match i, h with
  | 0, _ => exact ⟨1000000000, rfl, by decide, by decide⟩
  | 1, _ => exact ⟨999999999, rfl, by decide, by decide⟩
  | 2, _ => exact ⟨999999937, rfl, by decide, by decide⟩
  | 3, _ => exact ⟨65536, rfl, by decide, by decide⟩

theorem rat_rdr {w6 : World} {B g K b : Nat} (h : Rdr w6 B g K) (hne : b ≠ g) (hB : B ≤ b) (u v : Value) (o : Obj) : Rdr (((w6.setCell ⟨b, 0, none⟩ u).setCell ⟨b, 1, none⟩ v).alloc o) B g K :=
  ((h.set_ (p := ⟨b, 0, none⟩) hne hB u).set_ (p := ⟨b, 1, none⟩) hne hB v).below (bel_alloc (Below.refl _ _) o)
theorem rat_only {w w6 : World} {g : Nat} (h : w.grownBy w6 (some g)) (u v : Value) (o : Obj) : w.grownBy (((w6.setCell ⟨w.heap.size, 0, none⟩ u).setCell ⟨w.heap.size, 1, none⟩ v).alloc o) (some g) :=
  only_alloc (only_set (only_set h (p := ⟨w.heap.size, 0, none⟩) (Nat.le_refl _) u) (p := ⟨w.heap.size, 1, none⟩) (Nat.le_refl _) v) o

set_option maxHeartbeats 8000000 in
theorem l91_rat (B g K : Nat) (hK : K ≤ 800000) (w : World) (hr : Rdr w B g K) : Calls Tryd.prog 23 #[.pointer (some ⟨g, 0, none⟩)] w (RatEnd w B g (K + 6)) := by
  have hgl := hr.lt
  have hBg := hr.1
  have hne0 : w.heap.size ≠ g := by omega
  have hBw : B ≤ w.heap.size := by omega
  have hr0 := hr.below (bel_alloc (Below.refl _ _) (.cells #[.int .i64 0, .int .i64 0] 27))
  have O0 := Own.new w 27 #[.int .i64 0, .int .i64 0]
  have L0 := only_alloc (World.grownBy.refl w (some g)) (.cells #[.int .i64 0, .int .i64 0] 27)
  go_enter Tryd.func23, Tryd.ntmps23
  go_wp2_with fail
  refine (l91_small B g K (by omega) _ hr0).mono ?_
  rintro e w1 ⟨n, rfl, hn, hr1, hg1⟩
  have O1 := O0.pick hg1 hne0
  have L1 := only_trans L0 hg1
  clear hg1 O0 L0 hr0
  go_wp2_with fail
  refine (pick_any B g _ 12 (by omega) _ hr1).mono ?_
  rintro e w2 ⟨x1, rfl, hx1, hy1, _, hr2, hg2⟩
  have O2 := O1.pick hg2 hne0
  have L2 := only_trans L1 hg2
  clear hg2 O1 L1 hr1 hy1
  obtain ⟨m, hm, hcs⟩ : ∃ m : Int, m = n * 50000000 ∧ ((x1 == 0) = true ∨ ((x1 == 0) = false ∧ (x1 == 1) = true) ∨ ((x1 == 0) = false ∧ (x1 == 1) = false)) := ⟨_, rfl, by cases x1 == 0 <;> cases x1 == 1 <;> simp⟩
  have hw : IntKind.i64.wrap (n * 50000000) = n * 50000000 := IntWalk.i64_in _ (by omega)
  clear hm
  rcases hcs with h0 | ⟨h0, h1⟩ | ⟨h0, h1⟩
  go_wp2_with fail
  have hrA := hr2.below (bel_alloc (Below.refl _ _) (.cells numsA 3))
  have hneA : w2.heap.size ≠ g := by have := hr2.lt; omega
  refine (pick_any B g _ 4 (by omega) _ hrA).mono ?_
  rintro e w3 ⟨xi, rfl, hxi, hyi, _, hr3, hg3⟩
  have hyi := hyi (by omega)
  have O3 := (O2.alloc _).pick hg3 hne0
  have QA := (Own.new w2 3 numsA).pick hg3 hneA
  have L3 := only_trans (only_alloc L2 _) hg3
  obtain ⟨i, rfl⟩ := Int.eq_ofNat_of_zero_le hxi
  have hi4 : i < 4 := by omega
  obtain ⟨n1, hq, hn1a, hn1b⟩ := numsA_get hi4
  have qa := QA.cell i
  rw [hq] at qa
  have hn1 := And.intro hn1a hn1b
  clear hg3 O2 L2 hr2 hrA QA hq
  go_wp2_with fail
  rotate_left 1
  go_wp2_with fail
  obtain ⟨n1, hn1e⟩ : ∃ n1, n * 50000000 = n1 := ⟨_, rfl⟩
  rw [hn1e]
  have hn1 : -1000000000 ≤ n1 ∧ n1 ≤ 1000000000 := by omega
  have hr3 := hr2.more (show K + 1 + 1 ≤ K + 1 + 1 + 1 by omega)
  have O3 := O2
  have L3 := L2
  clear O2 L2 hr2 hn1e
  rotate_left 1
  go_wp2_with fail
  have hn1 : -1000000000 ≤ n ∧ n ≤ 1000000000 := by omega
  generalize n = n1 at *
  have hr3 := hr2.more (show K + 1 + 1 ≤ K + 1 + 1 + 1 by omega)
  have O3 := O2
  have L3 := L2
  clear O2 L2 hr2
  rotate_left 1

  all_goals
    refine (pick_any B g _ 24 (by omega) _ hr3).mono ?_
    rintro e w4 ⟨x2, rfl, hx2, hy2, _, hr4, hg4⟩
    have hy2 := hy2 (by omega)
    have O4 := O3.pick hg4 hne0
    have L4 := only_trans L3 hg4
    clear hg4 O3 L3 hr3
    have hwd : IntKind.i64.wrap (1 + x2) = 1 + x2 := IntWalk.i64_in _ (by omega)
    go_wp2_with fail
    refine (pick_any B g _ 12 (by omega) _ hr4).mono ?_
    rintro e w5 ⟨x3, rfl, hx3, hy3, _, hr5, hg5⟩
    have O5 := O4.pick hg5 hne0
    have L5 := only_trans L4 hg5
    clear hg5 O4 L4 hr4 hy3
    cases h3 : x3 == 0
    · go_wp2_with fail
      have H := (spec_rof_any n1 (1 + x2) hn1 (by omega))
      refine (H _).mono ?_
      rintro e w6 ⟨x, y, b, rfl, hx, hb6⟩
      have hr6 := (hr5.more (show _ ≤ K + 6 by omega)).below hb6
      have O6 := O5.below hb6
      have L6 := only_below L5 hb6
      have q6 := O6.cell
      have k6 := O6.lt
      have f6 := O6.frozen
      have kg := hr6.lt
      clear O5 L5 hr5 hb6 H
      cases b
      · go_wp2_with fail
        have OF := ((O6.set_ 0 (.int .i64 1)).set_ 1 (.int .i64 2)).alloc (.cells #[.int .i64 x, .int .i64 y] 27)
        have qF := OF.cell
        exact bodyPost_ret (v := .agg #[.int .i64 1, .int .i64 2]) (by simp [results, Tryd.results23, go_sem, qF]) rfl ⟨1, 2, rfl, by omega, rat_rdr hr6 hne0 hBw _ _ _, rat_only L6 _ _ _⟩
      · go_wp2_with fail
        have OF := ((O6.set_ 0 (.int .i64 x)).set_ 1 (.int .i64 y)).alloc (.cells #[.int .i64 x, .int .i64 y] 27)
        have qF := OF.cell
        exact bodyPost_ret (v := .agg #[.int .i64 x, .int .i64 y]) (by simp [results, Tryd.results23, go_sem, qF]) rfl ⟨x, y, rfl, hx, rat_rdr hr6 hne0 hBw _ _ _, rat_only L6 _ _ _⟩
    · go_wp2_with fail
      have hrD := hr5.below (bel_alloc (Below.refl _ _) (.cells numsB 3))
      have hneD : w5.heap.size ≠ g := by have := hr5.lt; omega
      refine (pick_any B g _ 4 (by omega) _ hrD).mono ?_
      rintro e w7 ⟨xj, rfl, hxj, hyj, _, hr7, hg7⟩
      have hyj := hyj (by omega)
      have O7 := (O5.alloc _).pick hg7 hne0
      have QD := (Own.new w5 3 numsB).pick hg7 hneD
      have L7 := only_trans (only_alloc L5 _) hg7
      obtain ⟨j, rfl⟩ := Int.eq_ofNat_of_zero_le hxj
      have hj4 : j < 4 := by omega
      obtain ⟨dd, hqd, hd0, hd1⟩ := numsB_get hj4
      have qd := QD.cell j
      rw [hqd] at qd
      clear hg7 O5 L5 hr5 hrD QD hqd
      go_wp2_with fail
      have H := (spec_rof_any n1 dd hn1 ⟨hd0, hd1⟩)
      refine (H _).mono ?_
      rintro e w6 ⟨x, y, b, rfl, hx, hb6⟩
      have hr6 := (hr7.more (show _ ≤ K + 6 by omega)).below hb6
      have O6 := O7.below hb6
      have L6 := only_below L7 hb6
      have q6 := O6.cell
      have k6 := O6.lt
      have f6 := O6.frozen
      have kg := hr6.lt
      clear O7 L7 hr7 hb6 H
      cases b
      · go_wp2_with fail
        have OF := ((O6.set_ 0 (.int .i64 1)).set_ 1 (.int .i64 2)).alloc (.cells #[.int .i64 x, .int .i64 y] 27)
        have qF := OF.cell
        exact bodyPost_ret (v := .agg #[.int .i64 1, .int .i64 2]) (by simp [results, Tryd.results23, go_sem, qF]) rfl ⟨1, 2, rfl, by omega, rat_rdr hr6 hne0 hBw _ _ _, rat_only L6 _ _ _⟩
      · go_wp2_with fail
        have OF := ((O6.set_ 0 (.int .i64 x)).set_ 1 (.int .i64 y)).alloc (.cells #[.int .i64 x, .int .i64 y] 27)
        have qF := OF.cell
        exact bodyPost_ret (v := .agg #[.int .i64 x, .int .i64 y]) (by simp [results, Tryd.results23, go_sem, qF]) rfl ⟨x, y, rfl, hx, rat_rdr hr6 hne0 hBw _ _ _, rat_only L6 _ _ _⟩

end Go.Proofs.YtefddmfnjneegaaDoor
