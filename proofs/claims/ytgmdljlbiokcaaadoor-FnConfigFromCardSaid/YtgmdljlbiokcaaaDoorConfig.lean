/-
  Contracts on lists of shells: comparing, validity.
-/
import Derived.Test.YtgmdljlbiokcaaaDoorSlices
namespace Go.Proofs.YtgmdljlbiokcaaaDoor
open Go.ChangeShapes Go.WideShapes Go.ChangeAt Go.RowKit Go.Deep Go.Joins
set_option linter.unusedVariables false
set_option maxRecDepth 100000

/-- cmp.Compare of two numbers -/
def cmpI (x y : Int) : Int := if x < y then -1 else if y < x then 1 else 0
/-- cmp.Or of two numbers -/
def orI (p q : Int) : Int := if p = 0 then q else p
/-- a shell stands ahead of another one -/
def lessB (s t : Sh) : Bool := decide (s.1 < t.1) || (s.1 == t.1 && decide (s.2.1 < t.2.1))
/-- comparing shells -/
def cmpS (s t : Sh) : Int := orI (cmpI s.1 t.1) (cmpI s.2.1 t.2.1)
theorem cmpS_neg (s t : Sh) : decide (0 ≤ cmpS s t) = !lessB s t := by
  unfold cmpS orI cmpI lessB
  by_cases h1 : s.1 < t.1
  · simp [h1]
  · by_cases h2 : t.1 < s.1
    · simp [h1, h2]; omega
    · have h3 : s.1 = t.1 := by omega
      by_cases h4 : s.2.1 < t.2.1
      · simp [h3, h4]
      · by_cases h5 : t.2.1 < s.2.1 <;> simp [h3, h4, h5]

theorem cmp_compare (x y : Int) (w : World) : Calls Tryd.prog 60 #[.int .i64 x, .int .i64 y] w fun e w' => e = .returned (.int .i64 (cmpI x y)) ∧ w = w' := by
  have hx : (x != x) = false := by simp
  have hy : (y != y) = false := by simp
  by_cases h1 : x < y
  · have H := Lib.hid (by simp [cmpI, h1] : cmpI x y = -1)
    go_enter Tryd.func60, Tryd.ntmps60
    go_wp2
    go_ret
    exact ⟨ret_int H.out.symm, rfl⟩
  · by_cases h2 : y < x
    · have H := Lib.hid (by simp [cmpI, h1, h2] : cmpI x y = 1)
      go_enter Tryd.func60, Tryd.ntmps60
      go_wp2
      go_ret
      exact ⟨ret_int H.out.symm, rfl⟩
    · have H := Lib.hid (by simp [cmpI, h1, h2] : cmpI x y = 0)
      go_enter Tryd.func60, Tryd.ntmps60
      go_wp2
      go_ret
      exact ⟨ret_int H.out.symm, rfl⟩

theorem cmp_or (p q : Int) (b off c : Nat) (w : World) (h0 : w.cell? ⟨b, off, none⟩ = some (.int .i64 p)) (h1 : w.cell? ⟨b, off + 1, none⟩ = some (.int .i64 q)) :
    Calls Tryd.prog 59 #[.slice (some ⟨b, off, none⟩) 2 c] w fun e w' => e = .returned (.int .i64 (orI p q)) ∧ w = w' := by
  go_enter Tryd.func59, Tryd.ntmps59
  go_wp2
  go_loopg [8] 2 (fun gk i wr => ∃ j : Nat, gk = 2 - j ∧ j ≤ 2 ∧ i = .int .i64 j ∧ w = wr ∧ (1 ≤ j → p = 0) ∧ (2 ≤ j → q = 0))
  case atStart => exact ⟨0, rfl, by omega, rfl, rfl, fun h => absurd h (by omega), fun h => absurd h (by omega)⟩
  case round =>
    obtain ⟨j, rfl, hj, rfl, rfl, hp, hq⟩ := hrel
    obtain rfl | rfl | rfl : j = 0 ∨ j = 1 ∨ j = 2 := by omega
    · clear hp hq
      cases hpz : p != 0
      · have H := Lib.hid hpz
        go_wp2
        go_roundg 1
        case measure => omega
        case rel => exact ⟨1, rfl, by omega, rfl, rfl, fun _ => by simpa using H.out, fun h => absurd h (by omega)⟩
      · have hp0 : ¬ p = 0 := by simpa using hpz
        have H := Lib.hid (if_neg hp0 : orI p q = p)
        clear hp0
        go_wp2
        go_ret
        exact ⟨ret_int H.out.symm, rfl⟩
    · have hp := Lib.hid (hp (by omega))
      clear hq
      cases hqz : q != 0
      · have H := Lib.hid hqz
        go_wp2
        go_roundg 0
        case measure => omega
        case rel => exact ⟨2, rfl, by omega, rfl, rfl, fun _ => hp.out, fun _ => by simpa using H.out⟩
      · have H := Lib.hid (by simp [orI, hp.out] : orI p q = q)
        go_wp2
        go_ret
        exact ⟨ret_int H.out.symm, rfl⟩
    · have H := Lib.hid (by simp [orI, hp (by omega), hq (by omega)] : orI p q = 0)
      clear hp hq
      go_wp2
      go_ret
      exact ⟨ret_int H.out.symm, rfl⟩

theorem cmp_shells (s t : Sh) (w : World) : Calls Tryd.prog 45 #[.agg #[.int .i64 s.1, .int .i64 s.2.1, .int .i64 s.2.2], .agg #[.int .i64 t.1, .int .i64 t.2.1, .int .i64 t.2.2]] w fun e w' => e = .returned (.int .i64 (cmpS s t)) ∧ Below w.heap.size w w' := by
  go_enter Tryd.func45, Tryd.ntmps45
  go_wp2_with fail
  have LB : Below w.heap.size w ((w.alloc (.cells #[.int .i64 s.1, .int .i64 s.2.1, .int .i64 s.2.2] 24)).alloc (.cells #[.int .i64 t.1, .int .i64 t.2.1, .int .i64 t.2.2] 24)) := (by repeat (first | exact Below.refl _ _ | assumption | refine bel_drewN ?_ _ | refine bel_drew ?_ | refine bel_alloc ?_ _ | refine bel_set ?_ (by simp; omega) _ | refine bel_set ?_ (by simp) _ | refine bel_trans ?_ (by assumption)))
  have OS := (Own.new w 24 #[.int .i64 s.1, .int .i64 s.2.1, .int .i64 s.2.2]).alloc (.cells #[.int .i64 t.1, .int .i64 t.2.1, .int .i64 t.2.2] 24)
  have OT := Own.new (w.alloc (.cells #[.int .i64 s.1, .int .i64 s.2.1, .int .i64 s.2.2] 24)) 24 #[.int .i64 t.1, .int .i64 t.2.1, .int .i64 t.2.2]
  rw [World.size_alloc] at OT
  generalize (w.alloc (.cells #[.int .i64 s.1, .int .i64 s.2.1, .int .i64 s.2.2] 24)).alloc (.cells #[.int .i64 t.1, .int .i64 t.2.1, .int .i64 t.2.2] 24) = A at *
  have s0 : A.cell? ⟨w.heap.size, 0, none⟩ = some (.int .i64 s.1) := OS.cell 0
  have s1 : A.cell? ⟨w.heap.size, 1, none⟩ = some (.int .i64 s.2.1) := OS.cell 1
  have t0 : A.cell? ⟨w.heap.size + 1, 0, none⟩ = some (.int .i64 t.1) := OT.cell 0
  have t1 : A.cell? ⟨w.heap.size + 1, 1, none⟩ = some (.int .i64 t.2.1) := OT.cell 1
  clear OS OT
  have hbA : w.heap.size ≤ A.heap.size := LB.size
  go_region_held3 (fun w' => w'.cell? ⟨w.heap.size, 0, none⟩ = some (.int .i64 s.1) ∧ w'.cell? ⟨w.heap.size, 1, none⟩ = some (.int .i64 s.2.1) ∧ w'.cell? ⟨w.heap.size + 1, 0, none⟩ = some (.int .i64 t.1) ∧ w'.cell? ⟨w.heap.size + 1, 1, none⟩ = some (.int .i64 t.2.1) ∧ Below w.heap.size w w')
    (first
      | exact ⟨s0, s1, t0, t1, LB.drew⟩
      | assumption
      | (refine ⟨?_, ?_, ?_, ?_, ?_⟩ <;> first | exact Below.drew (Below.alloc LB hbA _) | (go_keep; done)))
    (first
      | (go_at_call 60; refine (cmp_compare _ _ _).mono ?_; rintro e w' ⟨rfl, rfl⟩)
      | (go_at_call 59; refine (cmp_or (cmpI s.1 t.1) (cmpI s.2.1 t.2.1) A.heap.size 0 2 _ ?_ ?_).mono ?_; (simp); (simp); rintro e w' ⟨rfl, rfl⟩))
  go_wp2_with fail
  go_ret
  exact ⟨rfl, by first | assumption | (go_split_ands; assumption) | exact Below.drew (Below.alloc LB hbA _)⟩

theorem less_shells (s t : Sh) (w : World) : Calls Tryd.prog 54 #[.agg #[.int .i64 s.1, .int .i64 s.2.1, .int .i64 s.2.2], .agg #[.int .i64 t.1, .int .i64 t.2.1, .int .i64 t.2.2]] w fun e w' => e = .returned (.bool (lessB s t)) ∧ Below w.heap.size w w' := by
  by_cases h1 : s.1 < t.1
  · have H := Lib.hid (by simp [lessB, h1] : lessB s t = true)
    go_enter Tryd.func54, Tryd.ntmps54
    go_wp2_with fail
    go_ret
    exact ⟨ret_bool H.out.symm, (by repeat (first | exact Below.refl _ _ | assumption | refine bel_drewN ?_ _ | refine bel_drew ?_ | refine bel_alloc ?_ _ | refine bel_set ?_ (by simp; omega) _ | refine bel_set ?_ (by simp) _ | refine bel_trans ?_ (by assumption)))⟩
  · cases h2 : s.1 == t.1
    · have H := Lib.hid (by simp [lessB, h1, h2] : lessB s t = false)
      go_enter Tryd.func54, Tryd.ntmps54
      go_wp2_with fail
      go_ret
      exact ⟨ret_bool H.out.symm, (by repeat (first | exact Below.refl _ _ | assumption | refine bel_drewN ?_ _ | refine bel_drew ?_ | refine bel_alloc ?_ _ | refine bel_set ?_ (by simp; omega) _ | refine bel_set ?_ (by simp) _ | refine bel_trans ?_ (by assumption)))⟩
    · have H := Lib.hid (by simp [lessB, h1, h2] : lessB s t = decide (s.2.1 < t.2.1))
      go_enter Tryd.func54, Tryd.ntmps54
      go_wp2_with fail
      all_goals
        go_ret
        exact ⟨ret_bool (by rw [H.out]; try simp; try omega), (by repeat (first | exact Below.refl _ _ | assumption | refine bel_drewN ?_ _ | refine bel_drew ?_ | refine bel_alloc ?_ _ | refine bel_set ?_ (by simp; omega) _ | refine bel_set ?_ (by simp) _ | refine bel_trans ?_ (by assumption)))⟩

def sh0 : Sh := (0, 0, 0)
def okSh (s : Sh) : Bool := shB s.1 s.2.1 s.2.2
abbrev shV (s : Sh) : Value := .agg #[.int .i64 s.1, .int .i64 s.2.1, .int .i64 s.2.2]
theorem sv_no (s : Sh) (h : okSh s = false) (w : World) : Calls Tryd.prog 16 #[.agg #[.int .i64 s.1, .int .i64 s.2.1, .int .i64 s.2.2]] w fun e w' => e = .returned (.bool false) ∧ Below w.heap.size w w' := impl_sv_no _ _ _ h w
theorem sv_yes (s : Sh) (h : okSh s = true) (w : World) : Calls Tryd.prog 16 #[.agg #[.int .i64 s.1, .int .i64 s.2.1, .int .i64 s.2.2]] w fun e w' => e = .returned (.bool true) ∧ Below w.heap.size w w' := impl_sv_yes _ _ _ h w
theorem ssv_is (s : Sh) (v : Bool) (h : okSh s = v) (w : World) : Calls Tryd.prog 31 #[.agg #[.int .i64 s.1, .int .i64 s.2.1, .int .i64 s.2.2]] w fun e w' => e = .returned (.bool v) ∧ Below w.heap.size w w' := by
  rw [← h]; exact spec_sv _ _ _ w
theorem cmp_is (s t : Sh) (v : Bool) (h : lessB s t = v) (w : World) : Calls Tryd.prog 45 #[.agg #[.int .i64 s.1, .int .i64 s.2.1, .int .i64 s.2.2], .agg #[.int .i64 t.1, .int .i64 t.2.1, .int .i64 t.2.2]] w fun e w' => (∃ x : Int, decide (0 ≤ x) = !v ∧ e = .returned (.int .i64 x)) ∧ Below w.heap.size w w' :=
  (cmp_shells s t w).mono fun e w' ⟨he, hb⟩ => ⟨⟨_, by rw [cmpS_neg, h], he⟩, hb⟩
theorem less_is (s t : Sh) (v : Bool) (h : lessB s t = v) (w : World) : Calls Tryd.prog 54 #[.agg #[.int .i64 s.1, .int .i64 s.2.1, .int .i64 s.2.2], .agg #[.int .i64 t.1, .int .i64 t.2.1, .int .i64 t.2.2]] w fun e w' => e = .returned (.bool v) ∧ Below w.heap.size w w' := by
  rw [← h]; exact less_shells s t w
/-- the shell with index i is valid and stands behind the one ahead of it -/
def okAt (l : List Sh) (i : Nat) : Bool := okSh (l.getD i sh0) && (i == 0 || lessB (l.getD (i - 1) sh0) (l.getD i sh0))
def okUp (l : List Sh) : Nat → Bool
  | 0 => true
  | k + 1 => okUp l k && okAt l k
/-- a list of shells is a configuration -/
def cfgB (l : List Sh) : Bool := okUp l l.length && decide (0 < l.length)
theorem okUp_le (l : List Sh) : ∀ {k j : Nat}, j ≤ k → okUp l k = true → okUp l j = true := by
  intro k
  induction k with
  | zero =>
    intro j hj h
    obtain rfl : j = 0 := by omega
    rfl
  | succ k ih =>
    intro j hj h
    by_cases e : j = k + 1
    · rw [e]; exact h
    · refine ih (by omega) ?_
      simp only [okUp, Bool.and_eq_true] at h
      exact h.1
theorem cfgB_bad {l : List Sh} {k : Nat} (hk : k < l.length) (h : okAt l k = false) : cfgB l = false := by
  cases h' : okUp l l.length
  · simp [cfgB, h']
  · have := okUp_le l (show k + 1 ≤ l.length by omega) h'
    simp [okUp, h] at this
theorem getD_of {l : List Sh} {k : Nat} (hk : k < l.length) : l[k]? = some (l.getD k sh0) := by
  simp [List.getD, List.getElem?_eq_getElem hk]

set_option maxHeartbeats 4000000 in
theorem impl_cfg (v : Value) (l : List Sh) (w : World) (hv : ShAt w w.heap.size v l) :
    Calls Tryd.prog 27 #[v] w fun e w' => e = .returned (.bool (cfgB l)) ∧ Below w.heap.size w w' := by
  obtain ⟨A, c, rfl, hlc, hcm, hc⟩ := hv
  unfold maxLen at hcm
  have hcz : cfgB l = (okUp l l.length && decide (0 < l.length)) := rfl
  have HZ := Lib.hid hcz
  clear hcz
  go_enter Tryd.func27, Tryd.ntmps27
  go_wp2_with fail
  go_loopg [7] l.length (fun gk i wr => ∃ k : Nat, gk = l.length - k ∧ k ≤ l.length ∧ i = .int .i64 k ∧ okUp l k = true ∧ Below w.heap.size w wr)
  case atStart => exact ⟨0, rfl, by omega, rfl, rfl, Below.refl _ _⟩
  case round =>
    obtain ⟨k, rfl, hk, rfl, hok, hbel⟩ := hrel
    have HO := Lib.hid hok
    clear hok
    by_cases hlt : k < l.length
    · obtain ⟨b, off, rfl, hbl, hcell⟩ := hc (by omega)
      obtain ⟨s, hs⟩ : ∃ s, s = l.getD k sh0 := ⟨_, rfl⟩
      have hgs := getD_of hlt
      rw [← hs] at hgs
      obtain ⟨c0, c1, c2⟩ := hcell k _ hgs
      have hbw : b < wr.heap.size := by have := hbel.size; omega
      have c0 := (hbel.cell (p := ⟨b, off + k * 3, none⟩) hbl).trans c0
      have c1 := (hbel.cell (p := ⟨b, off + k * 3 + 1, none⟩) hbl).trans c1
      have c2 := (hbel.cell (p := ⟨b, off + k * 3 + 2, none⟩) hbl).trans c2
      have hlt' : (k : Int) < (l.length : Int) := by omega
      have hbad := Lib.hid (fun h => @cfgB_bad l k hlt h)
      have hat : okAt l k = (okSh s && (k == 0 || lessB (l.getD (k - 1) sh0) s)) := by rw [hs]; rfl
      have hup : okUp l (k + 1) = okAt l k := by simp [okUp, HO.out]
      have HA := Lib.hid hat
      have HU := Lib.hid hup
      clear hgs hs hat hup
      by_cases hk0 : k = 0
      · have hi0 : decide (0 < k) = false := by simp; omega
        have HK := Lib.hid hk0
        clear hk0
        cases hs : okSh s
        · have HC := Lib.hid (hbad.out (by rw [HA.out, hs]; rfl))
          go_wp2_with fail
          have LB : Below w.heap.size w (wr.alloc (.cells #[.int .i64 s.1, .int .i64 s.2.1, .int .i64 s.2.2] 24)) := (by repeat (first | exact Below.refl _ _ | assumption | refine bel_drewN ?_ _ | refine bel_drew ?_ | refine bel_alloc ?_ _ | refine bel_set ?_ (by simp; omega) _ | refine bel_set ?_ (by simp) _ | refine bel_trans ?_ (by assumption)))
          have OS := Own.new wr 24 #[.int .i64 s.1, .int .i64 s.2.1, .int .i64 s.2.2]
          clear c0 c1 c2 hbel
          generalize wr.alloc (.cells #[.int .i64 s.1, .int .i64 s.2.1, .int .i64 s.2.2] 24) = A at *
          have s0 := OS.cell
          have ls := OS.lt
          (refine wp_region_bel (by kernel_rfl) (by kernel_rfl) ?_; (repeat (first | go_big_quiet_skip | (go_big_quiet_want; first | (go_big_quiet_op; go_big_quiet_on) | (unfold Oper.quiet; apply Exists.intro; refine ⟨fun wx hCx => ?_, ?_⟩; (focus (obtain ⟨hcx, hfx⟩ := bcell hCx; go_simp; first | done | exact rfl | exact (sv_no s hs _).mono (fun _ _ hz => ⟨hz.1, bel_trans hCx hz.2⟩))); simp only [Act.put, List.setIfInBounds_toArray, List.set_cons_zero, List.set_cons_succ]; go_big_quiet_on)))); refine wpQuiet_nil ?_; intro wq hCq)
          go_wp2_with fail
          go_ret
          exact ⟨ret_bool HC.out.symm, (by repeat (first | exact Below.refl _ _ | assumption | refine bel_drewN ?_ _ | refine bel_drew ?_ | refine bel_alloc ?_ _ | refine bel_set ?_ (by simp; omega) _ | refine bel_set ?_ (by simp) _ | refine bel_trans ?_ (by assumption)))⟩
        · go_wp2_with fail
          have LB : Below w.heap.size w (wr.alloc (.cells #[.int .i64 s.1, .int .i64 s.2.1, .int .i64 s.2.2] 24)) := (by repeat (first | exact Below.refl _ _ | assumption | refine bel_drewN ?_ _ | refine bel_drew ?_ | refine bel_alloc ?_ _ | refine bel_set ?_ (by simp; omega) _ | refine bel_set ?_ (by simp) _ | refine bel_trans ?_ (by assumption)))
          have OS := Own.new wr 24 #[.int .i64 s.1, .int .i64 s.2.1, .int .i64 s.2.2]
          clear c0 c1 c2 hbel
          generalize wr.alloc (.cells #[.int .i64 s.1, .int .i64 s.2.1, .int .i64 s.2.2] 24) = A at *
          have s0 := OS.cell
          have ls := OS.lt
          (refine wp_region_bel (by kernel_rfl) (by kernel_rfl) ?_; (repeat (first | go_big_quiet_skip | (go_big_quiet_want; first | (go_big_quiet_op; go_big_quiet_on) | (unfold Oper.quiet; apply Exists.intro; refine ⟨fun wx hCx => ?_, ?_⟩; (focus (obtain ⟨hcx, hfx⟩ := bcell hCx; go_simp; first | done | exact rfl | exact (sv_yes s hs _).mono (fun _ _ hz => ⟨hz.1, bel_trans hCx hz.2⟩))); simp only [Act.put, List.setIfInBounds_toArray, List.set_cons_zero, List.set_cons_succ]; go_big_quiet_on)))); refine wpQuiet_nil ?_; intro wq hCq)
          go_wp2_with fail
          go_roundg (l.length - (k + 1))
          case measure => omega
          case rel => exact ⟨k + 1, rfl, by omega, by go_num, by rw [HU.out, HA.out, hs, HK.out]; rfl, (by repeat (first | exact Below.refl _ _ | assumption | refine bel_drewN ?_ _ | refine bel_drew ?_ | refine bel_alloc ?_ _ | refine bel_set ?_ (by simp; omega) _ | refine bel_set ?_ (by simp) _ | refine bel_trans ?_ (by assumption)))⟩
      · have hi0 : decide (0 < k) = true := by simp; omega
        cases hs : okSh s
        · have HC := Lib.hid (hbad.out (by rw [HA.out, hs]; rfl))
          go_wp2_with fail
          have LB : Below w.heap.size w (wr.alloc (.cells #[.int .i64 s.1, .int .i64 s.2.1, .int .i64 s.2.2] 24)) := (by repeat (first | exact Below.refl _ _ | assumption | refine bel_drewN ?_ _ | refine bel_drew ?_ | refine bel_alloc ?_ _ | refine bel_set ?_ (by simp; omega) _ | refine bel_set ?_ (by simp) _ | refine bel_trans ?_ (by assumption)))
          have OS := Own.new wr 24 #[.int .i64 s.1, .int .i64 s.2.1, .int .i64 s.2.2]
          clear c0 c1 c2 hbel
          generalize wr.alloc (.cells #[.int .i64 s.1, .int .i64 s.2.1, .int .i64 s.2.2] 24) = A at *
          have s0 := OS.cell
          have ls := OS.lt
          (refine wp_region_bel (by kernel_rfl) (by kernel_rfl) ?_; (repeat (first | go_big_quiet_skip | (go_big_quiet_want; first | (go_big_quiet_op; go_big_quiet_on) | (unfold Oper.quiet; apply Exists.intro; refine ⟨fun wx hCx => ?_, ?_⟩; (focus (obtain ⟨hcx, hfx⟩ := bcell hCx; go_simp; first | done | exact rfl | exact (sv_no s hs _).mono (fun _ _ hz => ⟨hz.1, bel_trans hCx hz.2⟩))); simp only [Act.put, List.setIfInBounds_toArray, List.set_cons_zero, List.set_cons_succ]; go_big_quiet_on)))); refine wpQuiet_nil ?_; intro wq hCq)
          go_wp2_with fail
          go_ret
          exact ⟨ret_bool HC.out.symm, (by repeat (first | exact Below.refl _ _ | assumption | refine bel_drewN ?_ _ | refine bel_drew ?_ | refine bel_alloc ?_ _ | refine bel_set ?_ (by simp; omega) _ | refine bel_set ?_ (by simp) _ | refine bel_trans ?_ (by assumption)))⟩
        · obtain ⟨p, hp⟩ : ∃ p, p = l.getD (k - 1) sh0 := ⟨_, rfl⟩
          have hgp := getD_of (show k - 1 < l.length by omega)
          rw [← hp] at hgp
          obtain ⟨d0, d1, d2⟩ := hcell (k - 1) _ hgp
          have d0 := (hbel.cell (p := ⟨b, off + (k - 1) * 3, none⟩) hbl).trans d0
          have d1 := (hbel.cell (p := ⟨b, off + (k - 1) * 3 + 1, none⟩) hbl).trans d1
          have d2 := (hbel.cell (p := ⟨b, off + (k - 1) * 3 + 2, none⟩) hbl).trans d2
          have HL := Lib.hid (show okAt l k = lessB p s by rw [HA.out, hs, hp]; simp [hk0])
          have hk1 : 1 ≤ k := by omega
          have e1 : IntKind.i64.wrap ((k : Int) - 1) = ((k - 1 : Nat) : Int) := by rw [IntWalk.i64_in _ (by omega)]; omega
          have f1 : ((k - 1 : Nat) : Int) < (l.length : Int) := by omega
          clear hgp hp hk0
          cases hl : lessB p s
          · have HC := Lib.hid (hbad.out (by rw [HL.out, hl]))
            have hcm := cmpS_neg p s
            rw [hl] at hcm
            have hcm : decide (0 ≤ cmpS p s) = true := hcm
            go_wp2_with fail
            have LB : Below w.heap.size w (wr.alloc (.cells #[.int .i64 s.1, .int .i64 s.2.1, .int .i64 s.2.2] 24)) := (by repeat (first | exact Below.refl _ _ | assumption | refine bel_drewN ?_ _ | refine bel_drew ?_ | refine bel_alloc ?_ _ | refine bel_set ?_ (by simp; omega) _ | refine bel_set ?_ (by simp) _ | refine bel_trans ?_ (by assumption)))
            have OS := Own.new wr 24 #[.int .i64 s.1, .int .i64 s.2.1, .int .i64 s.2.2]
            have D0 := (World.cell?_alloc_lt wr (.cells #[.int .i64 s.1, .int .i64 s.2.1, .int .i64 s.2.2] 24) ⟨b, off + (k - 1) * 3, none⟩ hbw).trans d0
            have D1 := (World.cell?_alloc_lt wr (.cells #[.int .i64 s.1, .int .i64 s.2.1, .int .i64 s.2.2] 24) ⟨b, off + (k - 1) * 3 + 1, none⟩ hbw).trans d1
            have D2 := (World.cell?_alloc_lt wr (.cells #[.int .i64 s.1, .int .i64 s.2.1, .int .i64 s.2.2] 24) ⟨b, off + (k - 1) * 3 + 2, none⟩ hbw).trans d2
            have hbA : b < (wr.alloc (.cells #[.int .i64 s.1, .int .i64 s.2.1, .int .i64 s.2.2] 24)).heap.size := by simp; omega
            clear c0 c1 c2 d0 d1 d2 hbel
            generalize wr.alloc (.cells #[.int .i64 s.1, .int .i64 s.2.1, .int .i64 s.2.2] 24) = A at *
            have s0 := OS.cell
            have ls := OS.lt
            (refine wp_region_bel (by kernel_rfl) (by kernel_rfl) ?_; (repeat (first | go_big_quiet_skip | (go_big_quiet_want; first | (go_big_quiet_op; go_big_quiet_on) | (unfold Oper.quiet; apply Exists.intro; refine ⟨fun wx hCx => ?_, ?_⟩; (focus (obtain ⟨hcx, hfx⟩ := bcell hCx; go_simp; first | done | exact rfl | (with_reducible exact (sv_yes s hs _).mono (fun _ _ hz => ⟨hz.1, bel_trans hCx hz.2⟩)) | (with_reducible exact (cmp_shells p s _).mono (fun _ _ hz => ⟨hz.1, bel_trans hCx hz.2⟩)) | exact (sv_yes s hs _).mono (fun _ _ hz => ⟨hz.1, bel_trans hCx hz.2⟩) | exact (cmp_shells p s _).mono (fun _ _ hz => ⟨hz.1, bel_trans hCx hz.2⟩))); simp only [Act.put, List.setIfInBounds_toArray, List.set_cons_zero, List.set_cons_succ]; go_big_quiet_on)))); refine wpQuiet_nil ?_; intro wq hCq)
            go_wp2_with fail
            go_ret
            exact ⟨ret_bool HC.out.symm, (by repeat (first | exact Below.refl _ _ | assumption | refine bel_drewN ?_ _ | refine bel_drew ?_ | refine bel_alloc ?_ _ | refine bel_set ?_ (by simp; omega) _ | refine bel_set ?_ (by simp) _ | refine bel_trans ?_ (by assumption)))⟩
          · have hcm := cmpS_neg p s
            rw [hl] at hcm
            have hcm : decide (0 ≤ cmpS p s) = false := hcm
            go_wp2_with fail
            have LB : Below w.heap.size w (wr.alloc (.cells #[.int .i64 s.1, .int .i64 s.2.1, .int .i64 s.2.2] 24)) := (by repeat (first | exact Below.refl _ _ | assumption | refine bel_drewN ?_ _ | refine bel_drew ?_ | refine bel_alloc ?_ _ | refine bel_set ?_ (by simp; omega) _ | refine bel_set ?_ (by simp) _ | refine bel_trans ?_ (by assumption)))
            have OS := Own.new wr 24 #[.int .i64 s.1, .int .i64 s.2.1, .int .i64 s.2.2]
            have D0 := (World.cell?_alloc_lt wr (.cells #[.int .i64 s.1, .int .i64 s.2.1, .int .i64 s.2.2] 24) ⟨b, off + (k - 1) * 3, none⟩ hbw).trans d0
            have D1 := (World.cell?_alloc_lt wr (.cells #[.int .i64 s.1, .int .i64 s.2.1, .int .i64 s.2.2] 24) ⟨b, off + (k - 1) * 3 + 1, none⟩ hbw).trans d1
            have D2 := (World.cell?_alloc_lt wr (.cells #[.int .i64 s.1, .int .i64 s.2.1, .int .i64 s.2.2] 24) ⟨b, off + (k - 1) * 3 + 2, none⟩ hbw).trans d2
            have hbA : b < (wr.alloc (.cells #[.int .i64 s.1, .int .i64 s.2.1, .int .i64 s.2.2] 24)).heap.size := by simp; omega
            clear c0 c1 c2 d0 d1 d2 hbel
            generalize wr.alloc (.cells #[.int .i64 s.1, .int .i64 s.2.1, .int .i64 s.2.2] 24) = A at *
            have s0 := OS.cell
            have ls := OS.lt
            (refine wp_region_bel (by kernel_rfl) (by kernel_rfl) ?_; (repeat (first | go_big_quiet_skip | (go_big_quiet_want; first | (go_big_quiet_op; go_big_quiet_on) | (unfold Oper.quiet; apply Exists.intro; refine ⟨fun wx hCx => ?_, ?_⟩; (focus (obtain ⟨hcx, hfx⟩ := bcell hCx; go_simp; first | done | exact rfl | (with_reducible exact (sv_yes s hs _).mono (fun _ _ hz => ⟨hz.1, bel_trans hCx hz.2⟩)) | (with_reducible exact (cmp_shells p s _).mono (fun _ _ hz => ⟨hz.1, bel_trans hCx hz.2⟩)) | exact (sv_yes s hs _).mono (fun _ _ hz => ⟨hz.1, bel_trans hCx hz.2⟩) | exact (cmp_shells p s _).mono (fun _ _ hz => ⟨hz.1, bel_trans hCx hz.2⟩))); simp only [Act.put, List.setIfInBounds_toArray, List.set_cons_zero, List.set_cons_succ]; go_big_quiet_on)))); refine wpQuiet_nil ?_; intro wq hCq)
            go_wp2_with fail
            go_roundg (l.length - (k + 1))
            case measure => omega
            case rel => exact ⟨k + 1, rfl, by omega, by go_num, by rw [HU.out, HL.out, hl], (by repeat (first | exact Below.refl _ _ | assumption | refine bel_drewN ?_ _ | refine bel_drew ?_ | refine bel_alloc ?_ _ | refine bel_set ?_ (by simp; omega) _ | refine bel_set ?_ (by simp) _ | refine bel_trans ?_ (by assumption)))⟩
    · have hkl : k = l.length := by omega
      have HE := Lib.hid (show cfgB l = decide (0 < l.length) by rw [HZ.out, ← hkl, HO.out, Bool.true_and])
      clear hkl
      go_wp2_with fail
      go_ret
      exact ⟨ret_bool (by rw [HE.out]), hbel⟩

set_option maxHeartbeats 4000000 in
theorem spec_cfg (v : Value) (l : List Sh) (w : World) (hv : ShAt w w.heap.size v l) :
    Calls Tryd.prog 41 #[v] w fun e w' => e = .returned (.bool (cfgB l)) ∧ Below w.heap.size w w' := by
  obtain ⟨A, c, rfl, hlc, hcm, hc⟩ := hv
  unfold maxLen at hcm
  have hcz : cfgB l = (okUp l l.length && decide (0 < l.length)) := rfl
  have HZ := Lib.hid hcz
  clear hcz
  go_enter Tryd.func41, Tryd.ntmps41
  go_wp2_with fail
  go_loopg [3] l.length (fun gk i wr => ∃ k : Nat, gk = l.length - k ∧ k ≤ l.length ∧ i = .int .i64 k ∧ okUp l k = true ∧ Below w.heap.size w wr)
  case atStart => exact ⟨0, rfl, by omega, rfl, rfl, Below.refl _ _⟩
  case round =>
    obtain ⟨k, rfl, hk, rfl, hok, hbel⟩ := hrel
    have HO := Lib.hid hok
    clear hok
    by_cases hlt : k < l.length
    · obtain ⟨b, off, rfl, hbl, hcell⟩ := hc (by omega)
      obtain ⟨s, hs⟩ : ∃ s, s = l.getD k sh0 := ⟨_, rfl⟩
      have hgs := getD_of hlt
      rw [← hs] at hgs
      obtain ⟨c0, c1, c2⟩ := hcell k _ hgs
      have hbw : b < wr.heap.size := by have := hbel.size; omega
      have c0 := (hbel.cell (p := ⟨b, off + k * 3, none⟩) hbl).trans c0
      have c1 := (hbel.cell (p := ⟨b, off + k * 3 + 1, none⟩) hbl).trans c1
      have c2 := (hbel.cell (p := ⟨b, off + k * 3 + 2, none⟩) hbl).trans c2
      have hlt' : (k : Int) < (l.length : Int) := by omega
      have hbad := Lib.hid (fun h => @cfgB_bad l k hlt h)
      have hat : okAt l k = (okSh s && (k == 0 || lessB (l.getD (k - 1) sh0) s)) := by rw [hs]; rfl
      have hup : okUp l (k + 1) = okAt l k := by simp [okUp, HO.out]
      have HA := Lib.hid hat
      have HU := Lib.hid hup
      clear hgs hs hat hup
      by_cases hk0 : k = 0
      · have hi0 : decide (0 < k) = false := by simp; omega
        have HK := Lib.hid hk0
        clear hk0
        cases hs : okSh s
        · have HC := Lib.hid (hbad.out (by rw [HA.out, hs]; rfl))
          go_wp2_with fail
          (refine wp_region_bel (by kernel_rfl) (by kernel_rfl) ?_; (repeat (first | go_big_quiet_skip | (go_big_quiet_want; first | (go_big_quiet_op; go_big_quiet_on) | (unfold Oper.quiet; apply Exists.intro; refine ⟨fun wx hCx => ?_, ?_⟩; (focus (obtain ⟨hcx, hfx⟩ := bcell hCx; go_simp; first | done | exact rfl | exact (ssv_is s false hs _).mono (fun _ _ hz => ⟨hz.1, bel_trans hCx hz.2⟩))); simp only [Act.put, List.setIfInBounds_toArray, List.set_cons_zero, List.set_cons_succ]; go_big_quiet_on)))); refine wpQuiet_nil ?_; intro wq hCq)
          go_wp2_with fail
          go_ret
          exact ⟨ret_bool HC.out.symm, (by repeat (first | exact Below.refl _ _ | assumption | refine bel_drewN ?_ _ | refine bel_drew ?_ | refine bel_alloc ?_ _ | refine bel_set ?_ (by simp; omega) _ | refine bel_set ?_ (by simp) _ | refine bel_trans ?_ (by assumption)))⟩
        · go_wp2_with fail
          (refine wp_region_bel (by kernel_rfl) (by kernel_rfl) ?_; (repeat (first | go_big_quiet_skip | (go_big_quiet_want; first | (go_big_quiet_op; go_big_quiet_on) | (unfold Oper.quiet; apply Exists.intro; refine ⟨fun wx hCx => ?_, ?_⟩; (focus (obtain ⟨hcx, hfx⟩ := bcell hCx; go_simp; first | done | exact rfl | exact (ssv_is s true hs _).mono (fun _ _ hz => ⟨hz.1, bel_trans hCx hz.2⟩))); simp only [Act.put, List.setIfInBounds_toArray, List.set_cons_zero, List.set_cons_succ]; go_big_quiet_on)))); refine wpQuiet_nil ?_; intro wq hCq)
          go_wp2_with fail
          go_roundg (l.length - (k + 1))
          case measure => omega
          case rel => exact ⟨k + 1, rfl, by omega, by go_num, by rw [HU.out, HA.out, hs, HK.out]; rfl, (by repeat (first | exact Below.refl _ _ | assumption | refine bel_drewN ?_ _ | refine bel_drew ?_ | refine bel_alloc ?_ _ | refine bel_set ?_ (by simp; omega) _ | refine bel_set ?_ (by simp) _ | refine bel_trans ?_ (by assumption)))⟩
      · have hi0 : decide (0 < k) = true := by simp; omega
        cases hs : okSh s
        · have HC := Lib.hid (hbad.out (by rw [HA.out, hs]; rfl))
          go_wp2_with fail
          (refine wp_region_bel (by kernel_rfl) (by kernel_rfl) ?_; (repeat (first | go_big_quiet_skip | (go_big_quiet_want; first | (go_big_quiet_op; go_big_quiet_on) | (unfold Oper.quiet; apply Exists.intro; refine ⟨fun wx hCx => ?_, ?_⟩; (focus (obtain ⟨hcx, hfx⟩ := bcell hCx; go_simp; first | done | exact rfl | exact (ssv_is s false hs _).mono (fun _ _ hz => ⟨hz.1, bel_trans hCx hz.2⟩))); simp only [Act.put, List.setIfInBounds_toArray, List.set_cons_zero, List.set_cons_succ]; go_big_quiet_on)))); refine wpQuiet_nil ?_; intro wq hCq)
          go_wp2_with fail
          go_ret
          exact ⟨ret_bool HC.out.symm, (by repeat (first | exact Below.refl _ _ | assumption | refine bel_drewN ?_ _ | refine bel_drew ?_ | refine bel_alloc ?_ _ | refine bel_set ?_ (by simp; omega) _ | refine bel_set ?_ (by simp) _ | refine bel_trans ?_ (by assumption)))⟩
        · obtain ⟨p, hp⟩ : ∃ p, p = l.getD (k - 1) sh0 := ⟨_, rfl⟩
          have hgp := getD_of (show k - 1 < l.length by omega)
          rw [← hp] at hgp
          obtain ⟨d0, d1, d2⟩ := hcell (k - 1) _ hgp
          have d0 := (hbel.cell (p := ⟨b, off + (k - 1) * 3, none⟩) hbl).trans d0
          have d1 := (hbel.cell (p := ⟨b, off + (k - 1) * 3 + 1, none⟩) hbl).trans d1
          have d2 := (hbel.cell (p := ⟨b, off + (k - 1) * 3 + 2, none⟩) hbl).trans d2
          have HL := Lib.hid (show okAt l k = lessB p s by rw [HA.out, hs, hp]; simp [hk0])
          have hk1 : 1 ≤ k := by omega
          have e1 : IntKind.i64.wrap ((k : Int) - 1) = ((k - 1 : Nat) : Int) := by rw [IntWalk.i64_in _ (by omega)]; omega
          have f1 : ((k - 1 : Nat) : Int) < (l.length : Int) := by omega
          clear hgp hp hk0
          cases hl : lessB p s
          · have HC := Lib.hid (hbad.out (by rw [HL.out, hl]))
            go_wp2_with fail
            (refine wp_region_bel (by kernel_rfl) (by kernel_rfl) ?_; (repeat (first | go_big_quiet_skip | (go_big_quiet_want; first | (go_big_quiet_op; go_big_quiet_on) | (unfold Oper.quiet; apply Exists.intro; refine ⟨fun wx hCx => ?_, ?_⟩; (focus (obtain ⟨hcx, hfx⟩ := bcell hCx; go_simp; first | done | exact rfl | (with_reducible exact (ssv_is s true hs _).mono (fun _ _ hz => ⟨hz.1, bel_trans hCx hz.2⟩)) | (with_reducible exact (less_is p s false hl _).mono (fun _ _ hz => ⟨hz.1, bel_trans hCx hz.2⟩)) | exact (ssv_is s true hs _).mono (fun _ _ hz => ⟨hz.1, bel_trans hCx hz.2⟩) | exact (less_is p s false hl _).mono (fun _ _ hz => ⟨hz.1, bel_trans hCx hz.2⟩))); simp only [Act.put, List.setIfInBounds_toArray, List.set_cons_zero, List.set_cons_succ]; go_big_quiet_on)))); refine wpQuiet_nil ?_; intro wq hCq)
            go_wp2_with fail
            go_ret
            exact ⟨ret_bool HC.out.symm, (by repeat (first | exact Below.refl _ _ | assumption | refine bel_drewN ?_ _ | refine bel_drew ?_ | refine bel_alloc ?_ _ | refine bel_set ?_ (by simp; omega) _ | refine bel_set ?_ (by simp) _ | refine bel_trans ?_ (by assumption)))⟩
          · go_wp2_with fail
            (refine wp_region_bel (by kernel_rfl) (by kernel_rfl) ?_; (repeat (first | go_big_quiet_skip | (go_big_quiet_want; first | (go_big_quiet_op; go_big_quiet_on) | (unfold Oper.quiet; apply Exists.intro; refine ⟨fun wx hCx => ?_, ?_⟩; (focus (obtain ⟨hcx, hfx⟩ := bcell hCx; go_simp; first | done | exact rfl | (with_reducible exact (ssv_is s true hs _).mono (fun _ _ hz => ⟨hz.1, bel_trans hCx hz.2⟩)) | (with_reducible exact (less_is p s true hl _).mono (fun _ _ hz => ⟨hz.1, bel_trans hCx hz.2⟩)) | exact (ssv_is s true hs _).mono (fun _ _ hz => ⟨hz.1, bel_trans hCx hz.2⟩) | exact (less_is p s true hl _).mono (fun _ _ hz => ⟨hz.1, bel_trans hCx hz.2⟩))); simp only [Act.put, List.setIfInBounds_toArray, List.set_cons_zero, List.set_cons_succ]; go_big_quiet_on)))); refine wpQuiet_nil ?_; intro wq hCq)
            go_wp2_with fail
            go_roundg (l.length - (k + 1))
            case measure => omega
            case rel => exact ⟨k + 1, rfl, by omega, by go_num, by rw [HU.out, HL.out, hl], (by repeat (first | exact Below.refl _ _ | assumption | refine bel_drewN ?_ _ | refine bel_drew ?_ | refine bel_alloc ?_ _ | refine bel_set ?_ (by simp; omega) _ | refine bel_set ?_ (by simp) _ | refine bel_trans ?_ (by assumption)))⟩
    · have hkl : k = l.length := by omega
      have HE := Lib.hid (show cfgB l = decide (0 < l.length) by rw [HZ.out, ← hkl, HO.out, Bool.true_and])
      clear hkl
      go_wp2_with fail
      go_ret
      exact ⟨ret_bool (by rw [HE.out]), hbel⟩

end Go.Proofs.YtgmdljlbiokcaaaDoor
