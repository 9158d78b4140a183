/-
  The number of microstates: what the program's and the reference's functions return.
-/
import Derived.Test.YtdfpcbbhapihiaaDoorMicro
namespace Go.Proofs.YtdfpcbbhapihiaaDoor
open Go.ChangeShapes Go.WideShapes Go.ChangeAt Go.RowKit Go.Deep Go.Joins micro
set_option linter.unusedVariables false

/-- the microstates with two sums -/
def cntP (q : List Pr) (o s : Int) : Int := (q.countP (fun t => t.1 == o && t.2 == s) : Int)
theorem cntP_snoc (q : List Pr) (t : Pr) (o s : Int) : cntP (q ++ [t]) o s = cntP q o s + if (t.1 == o && t.2 == s) = true then 1 else 0 := by
  unfold cntP
  rw [List.countP_append]
  by_cases h : (t.1 == o && t.2 == s) = true
  · simp only [List.countP_cons, h, List.countP_nil]; simp
  · simp only [List.countP_cons, h, List.countP_nil]; simp
theorem cntP_bd (q : List Pr) (o s : Int) : 0 ≤ cntP q o s ∧ cntP q o s ≤ q.length := by
  unfold cntP
  have := List.countP_le_length (p := fun t : Pr => t.1 == o && t.2 == s) (l := q)
  omega
/-- the number of microstates -/
def MC (l n o s : Int) : Int := if evB l n = true then cntP (ms l.toNat n) o s else -1
theorem ms_le {l : Nat} (hl : l ≤ 2) (n : Int) : (ms l n).length ≤ 1024 := Nat.le_trans (msUp_le _ _ _) (four_le hl)
theorem ms_ways {l : Nat} (hl : l ≤ 2) (n o s : Int) : cntP (ms l n) o s = micro.ways (2 * l + 1) (-(l : Int)) n o s := by
  rw [ways_count, states_map]
  unfold cntP ms msUp
  rw [List.countP_map, List.countP_map, List.countP_filter]
  congr 1
  apply List.countP_congr
  intro x hx
  have hx : x < 4 ^ (2 * l + 1) := by simpa using hx
  obtain ⟨hp, _⟩ := pop_of hl hx
  simp only [Function.comp_apply, Bool.and_eq_true, beq_iff_eq, decide_eq_true_eq]
  generalize G (2 * l + 1) (-(l : Int)) x = t at *
  obtain ⟨a, b, c⟩ := t
  simp only [Prod.mk.injEq] at hp ⊢
  omega
theorem ms_far {l : Nat} (hl : l ≤ 2) (n o s : Int) (h : o < -6 ∨ 6 < o ∨ s < -6 ∨ 6 < s) : cntP (ms l n) o s = 0 := by
  unfold cntP ms msUp
  have : List.countP (fun t : Pr => t.1 == o && t.2 == s) (((List.range (4 ^ (2 * l + 1))).filter fun x => (pop x : Int) == n).map fun x => (G (2 * l + 1) (-(l : Int)) x).2) = 0 := by
    rw [List.countP_eq_zero]
    intro t ht
    obtain ⟨x, hx, rfl⟩ := List.mem_map.1 ht
    have hx : x < 4 ^ (2 * l + 1) := by simpa using (List.mem_filter.1 hx).1
    obtain ⟨_, h1, h2, h3, h4⟩ := pop_of hl hx
    simp
    omega
  rw [this]; rfl
theorem evB_nat {l n : Int} (h : evB l n = true) : ∃ m : Nat, l = m ∧ m ≤ 2 ∧ 0 ≤ n ∧ n ≤ 10 ∧ l.toNat = m := by
  have := evB_true.1 h
  exact ⟨l.toNat, by omega, by omega, by omega, by omega, rfl⟩

theorem pr_cells {w wr : World} {A : Option Addr} {l : List Pr} {k : Nat}
    (hc : 0 < l.length → ∃ b off, A = some ⟨b, off, none⟩ ∧ b < w.heap.size ∧ ∀ i s, l[i]? = some s → w.cell? ⟨b, off + i * 2, none⟩ = some (.int .i64 s.1) ∧ w.cell? ⟨b, off + i * 2 + 1, none⟩ = some (.int .i64 s.2))
    (hbel : Below w.heap.size w wr) (hk : k < l.length) :
    ∃ b off, A = some ⟨b, off, none⟩ ∧ b < w.heap.size ∧ b < wr.heap.size ∧ wr.cell? ⟨b, off + k * 2, none⟩ = some (.int .i64 l[k].1) ∧ wr.cell? ⟨b, off + k * 2 + 1, none⟩ = some (.int .i64 l[k].2) := by
  obtain ⟨b, off, hA, hb, h⟩ := hc (by omega)
  obtain ⟨c0, c1⟩ := h k _ (List.getElem?_eq_getElem hk)
  have := hbel.size
  exact ⟨b, off, hA, hb, by omega, (hbel.cell (p := ⟨b, off + k * 2, none⟩) hb).trans c0, (hbel.cell (p := ⟨b, off + k * 2 + 1, none⟩) hb).trans c1⟩

set_option maxHeartbeats 4000000 in
theorem impl_mc (l n o s : Int) (w : World) (hT : Tab w) :
    Calls Tryd.prog 10 #[.int .i64 l, .int .i64 n, .int .i64 o, .int .i64 s] w fun e w' => e = .returned (.int .i64 (MC l n o s)) ∧ Below w.heap.size w w' := by
  cases hv : evB l n
  · have HM := Lib.hid (show MC l n o s = -1 by simp [MC, hv])
    go_enter Tryd.func10, Tryd.ntmps10
    go_wp2_with (go_at_call 23; refine (impl_ev _ _ _).mono ?_; rintro e w' ⟨rfl, rfl⟩)
    go_ret
    exact ⟨ret_int HM.out.symm, (by repeat (first | exact Below.refl _ _ | assumption | refine bel_drewN ?_ _ | refine bel_drew ?_ | refine bel_alloc ?_ _ | refine bel_set ?_ (by simp; omega) _ | refine bel_set ?_ (by simp) _ | refine bel_trans ?_ (by assumption)))⟩
  · obtain ⟨m, hm, hm2, hn0, hn1, hmt⟩ := evB_nat hv
    have HM := Lib.hid (show MC l n o s = cntP (ms m n) o s by simp [MC, hv, hmt])
    have hle := ms_le hm2 n
    have HMS := Lib.hid (fun w hT => impl_ms m n hm2 w hT)
    subst hm
    clear hmt
    generalize ms m n = q at *
    go_enter Tryd.func10, Tryd.ntmps10
    go_wp2_with (go_at_call 23; refine (impl_ev _ _ _).mono ?_; rintro e w' ⟨rfl, rfl⟩)
    refine (HMS.out _ hT).mono ?_
    rintro e w1 ⟨v, rfl, hown, hb1⟩
    have ha := hown.at_
    have HT := Lib.hid hT
    clear hown hT
    obtain ⟨A, c, rfl, hlc, hcm, hc⟩ := ha
    unfold maxLen at hcm
    go_wp2_with fail
    go_loopg [9, 20] q.length (fun gk t i wr => ∃ k : Nat, gk = q.length - k ∧ k ≤ q.length ∧ i = .int .i64 k ∧ t = .int .i64 (cntP (q.take k) o s) ∧ Below w1.heap.size w1 wr)
    case atStart => exact ⟨0, rfl, by omega, rfl, rfl, Below.refl _ _⟩
    case round =>
      obtain ⟨k, rfl, hk, rfl, rfl, hbel⟩ := hrel
      by_cases hlt : k < q.length
      · obtain ⟨b, off, rfl, hbl, hbw, c0, c1⟩ := pr_cells hc hbel hlt
        have hlt' : (k : Int) < (q.length : Int) := by omega
        have hsn := cntP_snoc (q.take k) q[k] o s
        rw [← List.take_succ_eq_append_getElem hlt] at hsn
        have hbd := cntP_bd (q.take k) o s
        rw [List.length_take] at hbd
        obtain ⟨bd0, bd1⟩ := hbd
        have bd2 : cntP (q.take k) o s ≤ 1024 := by omega
        clear bd1
        generalize cntP (q.take k) o s = z at *
        generalize q[k] = t at *
        cases h1 : t.1 == o
        · have HS := Lib.hid (show cntP (q.take (k + 1)) o s = z by rw [hsn, h1]; simp)
          clear hsn
          go_wp2_with fail
          go_roundg (q.length - (k + 1))
          case measure => omega
          case rel => exact ⟨k + 1, rfl, by omega, by go_num, by rw [HS.out], (by repeat (first | exact Below.refl _ _ | assumption | refine bel_drewN ?_ _ | refine bel_drew ?_ | refine bel_alloc ?_ _ | refine bel_set ?_ (by simp; omega) _ | refine bel_set ?_ (by simp) _ | refine bel_trans ?_ (by assumption)))⟩
        · cases h2 : t.2 == s
          · have HS := Lib.hid (show cntP (q.take (k + 1)) o s = z by rw [hsn, h2]; simp)
            clear hsn
            go_wp2_with fail
            go_roundg (q.length - (k + 1))
            case measure => omega
            case rel => exact ⟨k + 1, rfl, by omega, by go_num, by rw [HS.out], (by repeat (first | exact Below.refl _ _ | assumption | refine bel_drewN ?_ _ | refine bel_drew ?_ | refine bel_alloc ?_ _ | refine bel_set ?_ (by simp; omega) _ | refine bel_set ?_ (by simp) _ | refine bel_trans ?_ (by assumption)))⟩
          · have HS := Lib.hid (show cntP (q.take (k + 1)) o s = z + 1 by rw [hsn, h1, h2]; simp)
            clear hsn
            go_wp2_with fail
            go_roundg (q.length - (k + 1))
            case measure => omega
            case rel => exact ⟨k + 1, rfl, by omega, by go_num, by rw [HS.out], (by repeat (first | exact Below.refl _ _ | assumption | refine bel_drewN ?_ _ | refine bel_drew ?_ | refine bel_alloc ?_ _ | refine bel_set ?_ (by simp; omega) _ | refine bel_set ?_ (by simp) _ | refine bel_trans ?_ (by assumption)))⟩
      · have HK := Lib.hid (show k = q.length by omega)
        go_wp2_with fail
        go_ret
        exact ⟨ret_int (by rw [HM.out, HK.out, List.take_length]), bel_trans hb1 hbel⟩

theorem ways_bd (k : Nat) (m n o s : Int) : 0 ≤ micro.ways k m n o s ∧ micro.ways k m n o s ≤ 4 ^ k := by
  rw [ways_count]
  have h := List.countP_le_length (p := fun t : Tri => decide (t = (n, o, s))) (l := states k m)
  have e : (states k m).length = 4 ^ k := by rw [states_map]; simp
  rw [e] at h
  constructor
  · omega
  · exact_mod_cast h

set_option maxHeartbeats 4000000 in
set_option maxRecDepth 100000 in
theorem spec_ways (k : Nat) : k ≤ 5 → ∀ l m n o s : Int, l = m + k - 1 → -10 ≤ m → m + k ≤ 10 → -(2000 - 100 * (k : Int)) ≤ n → n ≤ 2000 - 100 * (k : Int) → -(2000 - 100 * (k : Int)) ≤ o → o ≤ 2000 - 100 * (k : Int) → -(2000 - 100 * (k : Int)) ≤ s → s ≤ 2000 - 100 * (k : Int) →
    ∀ w : World, Calls Tryd.prog 28 #[.int .i64 l, .int .i64 m, .int .i64 n, .int .i64 o, .int .i64 s] w fun e w' => e = .returned (.int .i64 (micro.ways k m n o s)) ∧ w = w' := by
  induction k with
  | zero =>
    intro _ l m n o s hl hm hm2 n1 n2 o1 o2 s1 s2 w
    have hlm : l < m := by omega
    have hw : micro.ways 0 m n o s = if n = 0 ∧ o = 0 ∧ s = 0 then 1 else 0 := rfl
    clear hl
    cases c1 : n == 0
    · have HW := Lib.hid (show micro.ways 0 m n o s = 0 by rw [hw, if_neg (by simp at c1; omega)])
      clear hw
      go_enter Tryd.func28, Tryd.ntmps28
      go_wp2_with fail
      go_ret
      exact ⟨ret_int HW.out.symm, rfl⟩
    · cases c2 : o == 0
      · have HW := Lib.hid (show micro.ways 0 m n o s = 0 by rw [hw, if_neg (by simp at c2; omega)])
        clear hw
        go_enter Tryd.func28, Tryd.ntmps28
        go_wp2_with fail
        go_ret
        exact ⟨ret_int HW.out.symm, rfl⟩
      · cases c3 : s == 0
        · have HW := Lib.hid (show micro.ways 0 m n o s = 0 by rw [hw, if_neg (by simp at c3; omega)])
          clear hw
          go_enter Tryd.func28, Tryd.ntmps28
          go_wp2_with fail
          go_ret
          exact ⟨ret_int HW.out.symm, rfl⟩
        · have HW := Lib.hid (show micro.ways 0 m n o s = 1 by rw [hw, if_pos (by simp at c1 c2 c3; omega)])
          clear hw
          go_enter Tryd.func28, Tryd.ntmps28
          go_wp2_with fail
          go_ret
          exact ⟨ret_int HW.out.symm, rfl⟩
  | succ k ih =>
    intro hk l m n o s hl hm hm2 n1 n2 o1 o2 s1 s2 w
    have ih := ih (by omega)
    have hlm : m ≤ l := by omega
    have hl20 : l ≤ 20 := by omega
    have hl21 : -20 ≤ l := by omega
    have hw : micro.ways (k + 1) m n o s = if n < 0 ∨ 2 * ((k : Int) + 1) < n then 0 else micro.ways k (m + 1) n o s + micro.ways k (m + 1) (n - 1) (o - m) (s - 1) + micro.ways k (m + 1) (n - 1) (o - m) (s + 1) + micro.ways k (m + 1) (n - 2) (o - 2 * m) s := rfl
    have el : l - m + 1 = (k : Int) + 1 := by omega
    by_cases c1 : n < 0
    · have HW := Lib.hid (show micro.ways (k + 1) m n o s = 0 by rw [hw, if_pos (by omega)])
      clear hw hl
      go_enter Tryd.func28, Tryd.ntmps28
      go_wp2_with fail
      go_ret
      exact ⟨ret_int HW.out.symm, rfl⟩
    · by_cases c2 : 2 * (l - m + 1) < n
      · have HW := Lib.hid (show micro.ways (k + 1) m n o s = 0 by rw [hw, if_pos (by omega)])
        clear hw hl
        go_enter Tryd.func28, Tryd.ntmps28
        go_wp2_with fail
        go_ret
        exact ⟨ret_int HW.out.symm, rfl⟩
      · have HW := Lib.hid (hw.trans (if_neg (by omega)))
        have hpw : (4 : Int) ^ k ≤ 256 := by
          have : k = 0 ∨ k = 1 ∨ k = 2 ∨ k = 3 ∨ k = 4 := by omega
          rcases this with rfl | rfl | rfl | rfl | rfl <;> decide
        have x1 := ways_bd k (m + 1) n o s
        have x2 := ways_bd k (m + 1) (n - 1) (o - m) (s - 1)
        have x3 := ways_bd k (m + 1) (n - 1) (o - m) (s + 1)
        have x4 := ways_bd k (m + 1) (n - 2) (o - 2 * m) s
        have r1 := ih l (m + 1) n o s (by omega) (by omega) (by omega) (by omega) (by omega) (by omega) (by omega) (by omega) (by omega)
        have r2 := ih l (m + 1) (n - 1) (o - m) (s - 1) (by omega) (by omega) (by omega) (by omega) (by omega) (by omega) (by omega) (by omega) (by omega)
        have r3 := ih l (m + 1) (n - 1) (o - m) (s + 1) (by omega) (by omega) (by omega) (by omega) (by omega) (by omega) (by omega) (by omega) (by omega)
        have r4 := ih l (m + 1) (n - 2) (o - 2 * m) s (by omega) (by omega) (by omega) (by omega) (by omega) (by omega) (by omega) (by omega) (by omega)
        generalize micro.ways k (m + 1) n o s = z1 at *
        generalize micro.ways k (m + 1) (n - 1) (o - m) (s - 1) = z2 at *
        generalize micro.ways k (m + 1) (n - 1) (o - m) (s + 1) = z3 at *
        generalize micro.ways k (m + 1) (n - 2) (o - 2 * m) s = z4 at *
        have y1 : 0 ≤ z1 ∧ z1 ≤ 256 := by omega
        have y2 : 0 ≤ z2 ∧ z2 ≤ 256 := by omega
        have y3 : 0 ≤ z3 ∧ z3 ≤ 256 := by omega
        have y4 : 0 ≤ z4 ∧ z4 ≤ 256 := by omega
        have hd1 : decide (2 * (l - m + 1) < n) = false := by simpa using c2
        have hd2 : decide (n < 0) = false := by simpa using c1
        have hd0 : decide (l < m) = false := by simp; omega
        have n3 : -1500 ≤ n := by omega
        have n4 : n ≤ 1500 := by omega
        have R1 := Lib.hid r1
        have R2 := Lib.hid r2
        have R3 := Lib.hid r3
        have R4 := Lib.hid r4
        clear c1 c2 n1 n2 x1 x2 x3 x4 hpw hw r1 r2 r3 r4 ih hl el
        obtain ⟨y10, y11⟩ := y1
        obtain ⟨y20, y21⟩ := y2
        obtain ⟨y30, y31⟩ := y3
        obtain ⟨y40, y41⟩ := y4
        go_enter Tryd.func28, Tryd.ntmps28
        go_wp2_with fail
        refine (R1.out _).mono ?_
        rintro e w' ⟨rfl, rfl⟩
        go_wp2_with fail
        refine (R2.out _).mono ?_
        rintro e w' ⟨rfl, rfl⟩
        go_wp2_with fail
        refine (R3.out _).mono ?_
        rintro e w' ⟨rfl, rfl⟩
        go_wp2_with fail
        refine (R4.out _).mono ?_
        rintro e w' ⟨rfl, rfl⟩
        go_wp2_with fail
        go_ret
        exact ⟨ret_int HW.out.symm, rfl⟩

theorem spec_mc (l n o s : Int) (w : World) :
    Calls Tryd.prog 12 #[.int .i64 l, .int .i64 n, .int .i64 o, .int .i64 s] w fun e w' => e = .returned (.int .i64 (MC l n o s)) ∧ w = w' := by
  cases hv : evB l n
  · have HM := Lib.hid (show MC l n o s = -1 by simp [MC, hv])
    go_enter Tryd.func12, Tryd.ntmps12
    go_wp2_with (go_at_call 25; refine (spec_ok _ _ _).mono ?_; rintro e w' ⟨rfl, rfl⟩)
    go_ret
    exact ⟨ret_int HM.out.symm, rfl⟩
  · obtain ⟨m, hm, hm2, hn0, hn1, hmt⟩ := evB_nat hv
    have hM : MC l n o s = cntP (ms m n) o s := by simp [MC, hv, hmt]
    subst hm
    cases h1 : inB o (-20) 20
    · have HM := Lib.hid (hM.trans (ms_far hm2 n o s (by have := inB_false.1 h1; omega)))
      clear hM
      go_enter Tryd.func12, Tryd.ntmps12
      go_wp2_with (first | (go_at_call 25; refine (spec_ok _ _ _).mono ?_; rintro e w' ⟨rfl, rfl⟩) | (go_at_call 27; refine (in_any _ _ _ _).mono ?_; rintro e w' ⟨rfl, rfl⟩))
      go_ret
      exact ⟨ret_int HM.out.symm, rfl⟩
    · cases h2 : inB s (-20) 20
      · have HM := Lib.hid (hM.trans (ms_far hm2 n o s (by have := inB_false.1 h2; omega)))
        clear hM
        go_enter Tryd.func12, Tryd.ntmps12
        go_wp2_with (first | (go_at_call 25; refine (spec_ok _ _ _).mono ?_; rintro e w' ⟨rfl, rfl⟩) | (go_at_call 27; refine (in_any _ _ _ _).mono ?_; rintro e w' ⟨rfl, rfl⟩))
        go_ret
        exact ⟨ret_int HM.out.symm, rfl⟩
      · have b1 := inB_true.1 h1
        have b2 := inB_true.1 h2
        have HM := Lib.hid (hM.trans (ms_ways hm2 n o s))
        have R := spec_ways (2 * m + 1) (by omega) (m : Int) (-(m : Int)) n o s (by omega) (by omega) (by omega) (by omega) (by omega) (by omega) (by omega) (by omega) (by omega)
        have R := Lib.hid R
        clear hM
        go_enter Tryd.func12, Tryd.ntmps12
        go_wp2_with (first | (go_at_call 25; refine (spec_ok _ _ _).mono ?_; rintro e w' ⟨rfl, rfl⟩) | (go_at_call 27; refine (in_any _ _ _ _).mono ?_; rintro e w' ⟨rfl, rfl⟩) | (go_at_call 28; refine (R.out _).mono ?_; rintro e w' ⟨rfl, rfl⟩))
        go_ret
        exact ⟨ret_int HM.out.symm, rfl⟩

end Go.Proofs.YtdfpcbbhapihiaaDoor
