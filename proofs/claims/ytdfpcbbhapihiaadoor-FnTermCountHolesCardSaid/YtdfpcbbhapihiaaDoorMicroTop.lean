/-
  The greatest sums of microstates: what the program's and the reference's functions return.
-/
import Derived.Test.YtdfpcbbhapihiaaDoorMicroAt
namespace Go.Proofs.YtdfpcbbhapihiaaDoor
open Go.ChangeShapes Go.WideShapes Go.ChangeAt Go.RowKit Go.Deep Go.Joins micro
set_option linter.unusedVariables false

theorem spec_mcz {l n o s z : Int} (hz : MC l n o s = z) {w : World} : Calls Tryd.prog 12 #[.int .i64 l, .int .i64 n, .int .i64 o, .int .i64 s] w fun e w' => e = .returned (.int .i64 z) ∧ w = w' := by
  rw [← hz]; exact spec_mc l n o s w

/-- the greatest of a number over the pairs that have another one -/
def topP (f g : Pr → Int) (y : Int) (q : List Pr) : Int := q.foldl (fun a t => if g t == y then max a (f t) else a) (-1)
theorem topP_snoc (f g : Pr → Int) (y : Int) (q : List Pr) (t : Pr) : topP f g y (q ++ [t]) = if g t == y then max (topP f g y q) (f t) else topP f g y q := by
  simp [topP, List.foldl_append]
theorem topP_ge (f g : Pr → Int) (y : Int) (q : List Pr) (r : List Pr) : q <+: r → -1 ≤ topP f g y q := by
  intro _
  have : ∀ (q : List Pr) (a : Int), -1 ≤ a → -1 ≤ q.foldl (fun a t => if g t == y then max a (f t) else a) a := by
    intro q
    induction q with
    | nil => intro a h; exact h
    | cons t q ih => intro a h; exact ih _ (by dsimp only; split <;> omega)
  exact this q (-1) (by omega)
theorem topP_mem (f g : Pr → Int) (y : Int) : ∀ (q : List Pr) (a : Int), q.foldl (fun a t => if g t == y then max a (f t) else a) a = a ∨ ∃ t ∈ q, g t = y ∧ f t = q.foldl (fun a t => if g t == y then max a (f t) else a) a := by
  intro q
  induction q with
  | nil => intro a; exact .inl rfl
  | cons t q ih =>
    intro a
    simp only [List.foldl_cons]
    by_cases h : g t = y
    · have e : (g t == y) = true := by simp [h]
      rw [e]
      simp only [if_true]
      rcases ih (max a (f t)) with h1 | ⟨u, hu, h2, h3⟩
      · rw [h1]
        by_cases hm : a ≤ f t
        · exact .inr ⟨t, by simp, h, by omega⟩
        · exact .inl (by omega)
      · exact .inr ⟨u, by simp [hu], h2, h3⟩
    · have e : (g t == y) = false := by simp [h]
      rw [e]
      simp only [Bool.false_eq_true, if_false]
      rcases ih a with h1 | ⟨u, hu, h2, h3⟩
      · exact .inl h1
      · exact .inr ⟨u, by simp [hu], h2, h3⟩
theorem topP_max (f g : Pr → Int) (y : Int) : ∀ (q : List Pr) (a : Int), a ≤ q.foldl (fun a t => if g t == y then max a (f t) else a) a ∧ ∀ t ∈ q, g t = y → f t ≤ q.foldl (fun a t => if g t == y then max a (f t) else a) a := by
  intro q
  induction q with
  | nil => intro a; exact ⟨Int.le_refl _, fun t h => by simp at h⟩
  | cons t q ih =>
    intro a
    simp only [List.foldl_cons]
    obtain ⟨h1, h2⟩ := ih (if g t == y then max a (f t) else a)
    refine ⟨?_, fun u hu hy => ?_⟩
    · refine Int.le_trans ?_ h1
      split <;> omega
    · rcases List.mem_cons.1 hu with rfl | hu
      · refine Int.le_trans ?_ h1
        rw [if_pos (by simp [hy])]; omega
      · exact h2 u hu hy

def MO (l n s : Int) : Int := if evB l n = true then topP (·.1) (·.2) s (ms l.toNat n) else -1
def MS (l n o : Int) : Int := if evB l n = true then topP (·.2) (·.1) o (ms l.toNat n) else -1
theorem ms_bd {m : Nat} (hm : m ≤ 2) (n : Int) : ∀ t ∈ ms m n, -6 ≤ t.1 ∧ t.1 ≤ 6 ∧ -6 ≤ t.2 ∧ t.2 ≤ 6 := by
  intro t ht
  obtain ⟨x, hx, rfl⟩ := List.mem_map.1 ht
  have hx : x < 4 ^ (2 * m + 1) := by simpa using (List.mem_filter.1 hx).1
  exact (pop_of hm hx).2
theorem cnt_pos {q : List Pr} {o s : Int} : 0 < cntP q o s ↔ (o, s) ∈ q := by
  unfold cntP
  rw [show (0 : Int) < ((q.countP fun t => t.1 == o && t.2 == s : Nat) : Int) ↔ 0 < q.countP fun t => t.1 == o && t.2 == s by omega, List.countP_pos_iff]
  constructor
  · rintro ⟨t, ht, h⟩
    simp at h
    have : t = (o, s) := Prod.ext h.1 h.2
    rw [← this]; exact ht
  · intro h; exact ⟨_, h, by simp⟩

set_option maxHeartbeats 4000000 in
theorem impl_xmo (l n y : Int) (w : World) (hT : Tab w) :
    Calls Tryd.prog 15 #[.int .i64 l, .int .i64 n, .int .i64 y] w fun e w' => e = .returned (.int .i64 (MO l n y)) ∧ Below w.heap.size w w' := by
  cases hv : evB l n
  · have HM := Lib.hid (show MO l n y = -1 by simp [MO, hv])
    go_enter Tryd.func15, Tryd.ntmps15
    go_wp2_with (go_at_call 23; refine (impl_ev _ _ _).mono ?_; rintro e w' ⟨rfl, rfl⟩)
    go_ret
    exact ⟨ret_int HM.out.symm, (by repeat (first | exact Below.refl _ _ | assumption | refine bel_drewN ?_ _ | refine bel_drew ?_ | refine bel_alloc ?_ _ | refine bel_set ?_ (by simp; omega) _ | refine bel_set ?_ (by simp) _ | refine bel_trans ?_ (by assumption)))⟩
  · obtain ⟨m, hm, hm2, hn0, hn1, hmt⟩ := evB_nat hv
    have HM := Lib.hid (show MO l n y = topP (·.1) (·.2) y (ms m n) by simp [MO, hv, hmt])
    have hle := ms_le hm2 n
    have HMS := Lib.hid (fun w hT => impl_ms m n hm2 w hT)
    subst hm
    clear hmt
    generalize ms m n = q at *
    go_enter Tryd.func15, Tryd.ntmps15
    go_wp2_with (go_at_call 23; refine (impl_ev _ _ _).mono ?_; rintro e w' ⟨rfl, rfl⟩)
    refine (HMS.out _ hT).mono ?_
    rintro e w1 ⟨v, rfl, hown, hb1⟩
    have ha := hown.at_
    have HT := Lib.hid hT
    clear hown hT
    obtain ⟨A, c, rfl, hlc, hcm, hc⟩ := ha
    unfold maxLen at hcm
    go_wp2_with fail
    go_loopg [7, 19] q.length (fun gk t i wr => ∃ k : Nat, gk = q.length - k ∧ k ≤ q.length ∧ i = .int .i64 k ∧ t = .int .i64 (topP (·.1) (·.2) y (q.take k)) ∧ Below w1.heap.size w1 wr)
    case atStart => exact ⟨0, rfl, by omega, rfl, rfl, Below.refl _ _⟩
    case round =>
      obtain ⟨k, rfl, hk, rfl, rfl, hbel⟩ := hrel
      by_cases hlt : k < q.length
      · obtain ⟨b, off, rfl, hbl, hbw, c0, c1⟩ := pr_cells hc hbel hlt
        have hlt' : (k : Int) < (q.length : Int) := by omega
        have hsn := topP_snoc (·.1) (·.2) y (q.take k) q[k]
        rw [← List.take_succ_eq_append_getElem hlt] at hsn
        generalize topP (·.1) (·.2) y (q.take k) = z at *
        generalize q[k] = t at *
        cases h1 : t.2 == y
        · have HS := Lib.hid (show topP (·.1) (·.2) y (q.take (k + 1)) = z by rw [hsn, h1]; rfl)
          clear hsn
          go_wp2_with fail
          go_roundg (q.length - (k + 1))
          case measure => omega
          case rel => exact ⟨k + 1, rfl, by omega, by go_num, by rw [HS.out], (by repeat (first | exact Below.refl _ _ | assumption | refine bel_drewN ?_ _ | refine bel_drew ?_ | refine bel_alloc ?_ _ | refine bel_set ?_ (by simp; omega) _ | refine bel_set ?_ (by simp) _ | refine bel_trans ?_ (by assumption)))⟩
        · by_cases h2 : z < t.1
          · have HS := Lib.hid (show topP (·.1) (·.2) y (q.take (k + 1)) = t.1 by rw [hsn, h1]; simp only [if_true]; omega)
            clear hsn
            go_wp2_with fail
            go_roundg (q.length - (k + 1))
            case measure => omega
            case rel => exact ⟨k + 1, rfl, by omega, by go_num, by rw [HS.out], (by repeat (first | exact Below.refl _ _ | assumption | refine bel_drewN ?_ _ | refine bel_drew ?_ | refine bel_alloc ?_ _ | refine bel_set ?_ (by simp; omega) _ | refine bel_set ?_ (by simp) _ | refine bel_trans ?_ (by assumption)))⟩
          · have HS := Lib.hid (show topP (·.1) (·.2) y (q.take (k + 1)) = z by rw [hsn, h1]; simp only [if_true]; omega)
            clear hsn
            go_wp2_with fail
            go_roundg (q.length - (k + 1))
            case measure => omega
            case rel => exact ⟨k + 1, rfl, by omega, by go_num, by rw [HS.out], (by repeat (first | exact Below.refl _ _ | assumption | refine bel_drewN ?_ _ | refine bel_drew ?_ | refine bel_alloc ?_ _ | refine bel_set ?_ (by simp; omega) _ | refine bel_set ?_ (by simp) _ | refine bel_trans ?_ (by assumption)))⟩
      · have HK := Lib.hid (show k = q.length by omega)
        go_wp2_with fail
        go_ret
        exact ⟨ret_int (by rw [HM.out, HK.out, List.take_length]), bel_trans hb1 hbel⟩

set_option maxHeartbeats 4000000 in
theorem impl_xms (l n y : Int) (w : World) (hT : Tab w) :
    Calls Tryd.prog 8 #[.int .i64 l, .int .i64 n, .int .i64 y] w fun e w' => e = .returned (.int .i64 (MS l n y)) ∧ Below w.heap.size w w' := by
  cases hv : evB l n
  · have HM := Lib.hid (show MS l n y = -1 by simp [MS, hv])
    go_enter Tryd.func8, Tryd.ntmps8
    go_wp2_with (go_at_call 23; refine (impl_ev _ _ _).mono ?_; rintro e w' ⟨rfl, rfl⟩)
    go_ret
    exact ⟨ret_int HM.out.symm, (by repeat (first | exact Below.refl _ _ | assumption | refine bel_drewN ?_ _ | refine bel_drew ?_ | refine bel_alloc ?_ _ | refine bel_set ?_ (by simp; omega) _ | refine bel_set ?_ (by simp) _ | refine bel_trans ?_ (by assumption)))⟩
  · obtain ⟨m, hm, hm2, hn0, hn1, hmt⟩ := evB_nat hv
    have HM := Lib.hid (show MS l n y = topP (·.2) (·.1) y (ms m n) by simp [MS, hv, hmt])
    have hle := ms_le hm2 n
    have HMS := Lib.hid (fun w hT => impl_ms m n hm2 w hT)
    subst hm
    clear hmt
    generalize ms m n = q at *
    go_enter Tryd.func8, Tryd.ntmps8
    go_wp2_with (go_at_call 23; refine (impl_ev _ _ _).mono ?_; rintro e w' ⟨rfl, rfl⟩)
    refine (HMS.out _ hT).mono ?_
    rintro e w1 ⟨v, rfl, hown, hb1⟩
    have ha := hown.at_
    have HT := Lib.hid hT
    clear hown hT
    obtain ⟨A, c, rfl, hlc, hcm, hc⟩ := ha
    unfold maxLen at hcm
    go_wp2_with fail
    go_loopg [7, 19] q.length (fun gk t i wr => ∃ k : Nat, gk = q.length - k ∧ k ≤ q.length ∧ i = .int .i64 k ∧ t = .int .i64 (topP (·.2) (·.1) y (q.take k)) ∧ Below w1.heap.size w1 wr)
    case atStart => exact ⟨0, rfl, by omega, rfl, rfl, Below.refl _ _⟩
    case round =>
      obtain ⟨k, rfl, hk, rfl, rfl, hbel⟩ := hrel
      by_cases hlt : k < q.length
      · obtain ⟨b, off, rfl, hbl, hbw, c0, c1⟩ := pr_cells hc hbel hlt
        have hlt' : (k : Int) < (q.length : Int) := by omega
        have hsn := topP_snoc (·.2) (·.1) y (q.take k) q[k]
        rw [← List.take_succ_eq_append_getElem hlt] at hsn
        generalize topP (·.2) (·.1) y (q.take k) = z at *
        generalize q[k] = t at *
        cases h1 : t.1 == y
        · have HS := Lib.hid (show topP (·.2) (·.1) y (q.take (k + 1)) = z by rw [hsn, h1]; rfl)
          clear hsn
          go_wp2_with fail
          go_roundg (q.length - (k + 1))
          case measure => omega
          case rel => exact ⟨k + 1, rfl, by omega, by go_num, by rw [HS.out], (by repeat (first | exact Below.refl _ _ | assumption | refine bel_drewN ?_ _ | refine bel_drew ?_ | refine bel_alloc ?_ _ | refine bel_set ?_ (by simp; omega) _ | refine bel_set ?_ (by simp) _ | refine bel_trans ?_ (by assumption)))⟩
        · by_cases h2 : z < t.2
          · have HS := Lib.hid (show topP (·.2) (·.1) y (q.take (k + 1)) = t.2 by rw [hsn, h1]; simp only [if_true]; omega)
            clear hsn
            go_wp2_with fail
            go_roundg (q.length - (k + 1))
            case measure => omega
            case rel => exact ⟨k + 1, rfl, by omega, by go_num, by rw [HS.out], (by repeat (first | exact Below.refl _ _ | assumption | refine bel_drewN ?_ _ | refine bel_drew ?_ | refine bel_alloc ?_ _ | refine bel_set ?_ (by simp; omega) _ | refine bel_set ?_ (by simp) _ | refine bel_trans ?_ (by assumption)))⟩
          · have HS := Lib.hid (show topP (·.2) (·.1) y (q.take (k + 1)) = z by rw [hsn, h1]; simp only [if_true]; omega)
            clear hsn
            go_wp2_with fail
            go_roundg (q.length - (k + 1))
            case measure => omega
            case rel => exact ⟨k + 1, rfl, by omega, by go_num, by rw [HS.out], (by repeat (first | exact Below.refl _ _ | assumption | refine bel_drewN ?_ _ | refine bel_drew ?_ | refine bel_alloc ?_ _ | refine bel_set ?_ (by simp; omega) _ | refine bel_set ?_ (by simp) _ | refine bel_trans ?_ (by assumption)))⟩
      · have HK := Lib.hid (show k = q.length by omega)
        go_wp2_with fail
        go_ret
        exact ⟨ret_int (by rw [HM.out, HK.out, List.take_length]), bel_trans hb1 hbel⟩


theorem topP_lt {f g : Pr → Int} {y x : Int} {q : List Pr} (h : topP f g y q < x) : ∀ t ∈ q, f t = x → g t ≠ y := by
  intro t ht hx hy
  have := (topP_max f g y q (-1)).2 t ht hy
  unfold topP at h
  omega
theorem topP_at {f g : Pr → Int} {y : Int} {q : List Pr} (h : 0 ≤ topP f g y q) : ∃ t ∈ q, g t = y ∧ f t = topP f g y q := by
  rcases topP_mem f g y q (-1) with h1 | h1
  · unfold topP at h; omega
  · exact h1
theorem topP_low (f g : Pr → Int) (y : Int) (q : List Pr) : -1 ≤ topP f g y q := (topP_max f g y q (-1)).1
theorem cnt_zero {q : List Pr} {o s : Int} (h : (o, s) ∉ q) : cntP q o s = 0 := by
  have := cntP_bd q o s
  by_cases hp : 0 < cntP q o s
  · exact absurd (cnt_pos.1 hp) h
  · omega

theorem mo_facts {m : Nat} {n y : Int} (hm : m ≤ 2) : -1 ≤ topP (·.1) (·.2) y (ms m n) ∧ topP (·.1) (·.2) y (ms m n) ≤ 6 ∧
    (∀ x, topP (·.1) (·.2) y (ms m n) < x → cntP (ms m n) x y = 0) ∧ (0 ≤ topP (·.1) (·.2) y (ms m n) → ∀ x, x = topP (·.1) (·.2) y (ms m n) → 0 < cntP (ms m n) x y) := by
  have h1 := topP_low (·.1) (·.2) y (ms m n)
  refine ⟨h1, ?_, fun x hx => cnt_zero fun hmem => ?_, fun h0 x hx => cnt_pos.2 ?_⟩
  · by_cases h0 : 0 ≤ topP (·.1) (·.2) y (ms m n)
    · obtain ⟨t, ht, _, h2⟩ := topP_at h0
      have := ms_bd hm n t ht
      rw [← h2]; omega
    · omega
  · exact topP_lt hx _ hmem rfl rfl
  · obtain ⟨t, ht, h2, h3⟩ := topP_at h0
    have : t = (x, y) := Prod.ext (by simp only; omega) (by simp only; omega)
    rw [← this]; exact ht
set_option maxHeartbeats 4000000 in
theorem spec_xmo (l n y : Int) (w : World) :
    Calls Tryd.prog 16 #[.int .i64 l, .int .i64 n, .int .i64 y] w fun e w' => e = .returned (.int .i64 (MO l n y)) ∧ w = w' := by
  cases hv : evB l n
  · have HM := Lib.hid (show MO l n y = -1 by simp [MO, hv])
    go_enter Tryd.func16, Tryd.ntmps16
    go_wp2_with (go_at_call 25; refine (spec_ok _ _ _).mono ?_; rintro e w' ⟨rfl, rfl⟩)
    go_ret
    exact ⟨ret_int HM.out.symm, rfl⟩
  · obtain ⟨m, hm, hm2, hn0, hn1, hmt⟩ := evB_nat hv
    obtain ⟨t1, t2, t3, t4⟩ := mo_facts (n := n) (y := y) hm2
    have HMC := Lib.hid (show ∀ x, MC l n x y = cntP (ms m n) x y by intro x; simp [MC, hv, hmt])
    have hM : MO l n y = topP (·.1) (·.2) y (ms m n) := by simp [MO, hv, hmt]
    subst hm
    clear hmt
    obtain ⟨T, hT⟩ : ∃ T, topP (·.1) (·.2) y (ms m n) = T := ⟨_, rfl⟩
    rw [hT] at t1 t2 t3 t4 hM
    have HM := Lib.hid hM
    have H3 := Lib.hid t3
    have H4 := Lib.hid t4
    clear t3 t4 hT hM
    go_enter Tryd.func16, Tryd.ntmps16
    go_wp2_with (go_at_call 25; refine (spec_ok _ _ _).mono ?_; rintro e w' ⟨rfl, rfl⟩)
    go_loopg [7] 21 (fun gk i wr => ∃ j : Nat, j = gk ∧ j ≤ 21 ∧ i = .int .i64 ((j : Int) - 1) ∧ T < j ∧ w = wr)
    case atStart => exact ⟨21, rfl, by omega, rfl, by omega, rfl⟩
    case round =>
      obtain ⟨j, rfl, hj, rfl, hTj, rfl⟩ := hrel
      by_cases hj0 : j = 0
      · have hd : decide ((1 : Int) ≤ j) = false := by simp; omega
        have HT0 := Lib.hid (show T = -1 by omega)
        clear hj0
        go_wp2_with fail
        go_ret
        exact ⟨ret_int (by rw [HM.out, HT0.out]), rfl⟩
      · have hd : decide ((1 : Int) ≤ j) = true := by simp; omega
        obtain ⟨z, hz⟩ : ∃ z, cntP (ms m n) ((j : Int) - 1) y = z := ⟨_, rfl⟩
        have hz0 := cntP_bd (ms m n) ((j : Int) - 1) y
        rw [hz] at hz0
        have hmz := (HMC.out ((j : Int) - 1)).trans hz
        by_cases hzp : 0 < z
        · have hTe : T = (j : Int) - 1 := by
            by_cases h : T < (j : Int) - 1
            · have := H3.out _ h; omega
            · omega
          have HTE := Lib.hid hTe
          have HMZ := Lib.hid hmz
          clear hTe hmz hz hz0
          go_wp2_with fail
          refine (spec_mcz HMZ.out).mono ?_
          rintro e w' ⟨rfl, rfl⟩
          go_wp2_with fail
          go_ret
          exact ⟨ret_int (by rw [HM.out, HTE.out]), rfl⟩
        · have hTe : T < (j : Int) - 1 := by
            by_cases h : T = (j : Int) - 1
            · have := H4.out (by omega) _ h.symm; omega
            · omega
          have HMZ := Lib.hid hmz
          have hzd : decide (0 < z) = false := by simp; omega
          clear hmz hz hz0
          go_wp2_with fail
          refine (spec_mcz HMZ.out).mono ?_
          rintro e w' ⟨rfl, rfl⟩
          go_wp2_with fail
          go_roundg (j - 1)
          case measure => omega
          case rel => exact ⟨j - 1, rfl, by omega, by go_num, by omega, rfl⟩

theorem ms_facts {m : Nat} {n y : Int} (hm : m ≤ 2) : -1 ≤ topP (·.2) (·.1) y (ms m n) ∧ topP (·.2) (·.1) y (ms m n) ≤ 6 ∧
    (∀ x, topP (·.2) (·.1) y (ms m n) < x → cntP (ms m n) y x = 0) ∧ (0 ≤ topP (·.2) (·.1) y (ms m n) → ∀ x, x = topP (·.2) (·.1) y (ms m n) → 0 < cntP (ms m n) y x) := by
  have h1 := topP_low (·.2) (·.1) y (ms m n)
  refine ⟨h1, ?_, fun x hx => cnt_zero fun hmem => ?_, fun h0 x hx => cnt_pos.2 ?_⟩
  · by_cases h0 : 0 ≤ topP (·.2) (·.1) y (ms m n)
    · obtain ⟨t, ht, _, h2⟩ := topP_at h0
      have := ms_bd hm n t ht
      rw [← h2]; omega
    · omega
  · exact topP_lt hx _ hmem rfl rfl
  · obtain ⟨t, ht, h2, h3⟩ := topP_at h0
    have : t = (y, x) := Prod.ext (by simp only; omega) (by simp only; omega)
    rw [← this]; exact ht
set_option maxHeartbeats 4000000 in
theorem spec_xms (l n y : Int) (w : World) :
    Calls Tryd.prog 9 #[.int .i64 l, .int .i64 n, .int .i64 y] w fun e w' => e = .returned (.int .i64 (MS l n y)) ∧ w = w' := by
  cases hv : evB l n
  · have HM := Lib.hid (show MS l n y = -1 by simp [MS, hv])
    go_enter Tryd.func9, Tryd.ntmps9
    go_wp2_with (go_at_call 25; refine (spec_ok _ _ _).mono ?_; rintro e w' ⟨rfl, rfl⟩)
    go_ret
    exact ⟨ret_int HM.out.symm, rfl⟩
  · obtain ⟨m, hm, hm2, hn0, hn1, hmt⟩ := evB_nat hv
    obtain ⟨t1, t2, t3, t4⟩ := ms_facts (n := n) (y := y) hm2
    have HMC := Lib.hid (show ∀ x, MC l n y x = cntP (ms m n) y x by intro x; simp [MC, hv, hmt])
    have hM : MS l n y = topP (·.2) (·.1) y (ms m n) := by simp [MS, hv, hmt]
    subst hm
    clear hmt
    obtain ⟨T, hT⟩ : ∃ T, topP (·.2) (·.1) y (ms m n) = T := ⟨_, rfl⟩
    rw [hT] at t1 t2 t3 t4 hM
    have HM := Lib.hid hM
    have H3 := Lib.hid t3
    have H4 := Lib.hid t4
    clear t3 t4 hT hM
    go_enter Tryd.func9, Tryd.ntmps9
    go_wp2_with (go_at_call 25; refine (spec_ok _ _ _).mono ?_; rintro e w' ⟨rfl, rfl⟩)
    go_loopg [7] 11 (fun gk i wr => ∃ j : Nat, j = gk ∧ j ≤ 11 ∧ i = .int .i64 ((j : Int) - 1) ∧ T < j ∧ w = wr)
    case atStart => exact ⟨11, rfl, by omega, rfl, by omega, rfl⟩
    case round =>
      obtain ⟨j, rfl, hj, rfl, hTj, rfl⟩ := hrel
      by_cases hj0 : j = 0
      · have hd : decide ((1 : Int) ≤ j) = false := by simp; omega
        have HT0 := Lib.hid (show T = -1 by omega)
        clear hj0
        go_wp2_with fail
        go_ret
        exact ⟨ret_int (by rw [HM.out, HT0.out]), rfl⟩
      · have hd : decide ((1 : Int) ≤ j) = true := by simp; omega
        obtain ⟨z, hz⟩ : ∃ z, cntP (ms m n) y ((j : Int) - 1) = z := ⟨_, rfl⟩
        have hz0 := cntP_bd (ms m n) y ((j : Int) - 1)
        rw [hz] at hz0
        have hmz := (HMC.out ((j : Int) - 1)).trans hz
        by_cases hzp : 0 < z
        · have hTe : T = (j : Int) - 1 := by
            by_cases h : T < (j : Int) - 1
            · have := H3.out _ h; omega
            · omega
          have HTE := Lib.hid hTe
          have HMZ := Lib.hid hmz
          clear hTe hmz hz hz0
          go_wp2_with fail
          refine (spec_mcz HMZ.out).mono ?_
          rintro e w' ⟨rfl, rfl⟩
          go_wp2_with fail
          go_ret
          exact ⟨ret_int (by rw [HM.out, HTE.out]), rfl⟩
        · have hTe : T < (j : Int) - 1 := by
            by_cases h : T = (j : Int) - 1
            · have := H4.out (by omega) _ h.symm; omega
            · omega
          have HMZ := Lib.hid hmz
          have hzd : decide (0 < z) = false := by simp; omega
          clear hmz hz hz0
          go_wp2_with fail
          refine (spec_mcz HMZ.out).mono ?_
          rintro e w' ⟨rfl, rfl⟩
          go_wp2_with fail
          go_roundg (j - 1)
          case measure => omega
          case rel => exact ⟨j - 1, rfl, by omega, by go_num, by omega, rfl⟩


end Go.Proofs.YtdfpcbbhapihiaaDoor
