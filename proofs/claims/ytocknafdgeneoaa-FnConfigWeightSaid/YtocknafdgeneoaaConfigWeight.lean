/-
  The weight of a configuration.
-/
import Derived.Test.YtocknafdgeneoaaConfigNums
import Derived.Test.YtocknafdgeneoaaBinom
namespace Go.Proofs.Ytocknafdgeneoaa
open Go.ChangeShapes Go.WideShapes Go.ChangeAt Go.RowKit Go.Deep Go.Joins
set_option linter.unusedVariables false

/-- the number of ways to fill a shell -/
def chS (s : Sh) : Int := (bin (cap s.2.1).toNat s.2.2.toNat : Int)
/-- the product over the first shells, or nothing behind one that is too large -/
def wUp (l : List Sh) : Nat → Option Int
  | 0 => some 1
  | k + 1 => match wUp l k with
    | none => none
    | some x => if 1000000000 < x * chS (l.getD k sh0) then none else some (x * chS (l.getD k sh0))
theorem wUp_none {l : List Sh} {k : Nat} (h : wUp l k = none) : ∀ j, k ≤ j → wUp l j = none := by
  intro j hj
  induction j with
  | zero => obtain rfl : k = 0 := by omega
            exact h
  | succ j ih =>
    by_cases e : k = j + 1
    · rw [← e]; exact h
    · simp only [wUp, ih (by omega)]
/-- the weight of a configuration -/
def weB (l : List Sh) : Int := if cfgB l = true then (wUp l l.length).getD (-1) else -1
theorem chS_bd {s : Sh} (h : okSh s = true) : 1 ≤ chS s ∧ chS s ≤ 16384 ∧ cap s.2.1 = ((cap s.2.1).toNat : Int) ∧ s.2.2 = (s.2.2.toNat : Int) ∧ (cap s.2.1).toNat ≤ 14 ∧ s.2.2.toNat ≤ (cap s.2.1).toNat := by
  have hb := okSh_bd h
  have hc : cap s.2.1 = 4 * s.2.1 + 2 := if_neg (by omega)
  have h1 : (cap s.2.1).toNat ≤ 14 := by omega
  have h2 : s.2.2.toNat ≤ (cap s.2.1).toNat := by omega
  have := bin_bd h1 s.2.2.toNat
  have := bin_pos h2
  unfold chS
  omega
theorem wUp_bd {l : List Sh} (hc : cfgB l = true) : ∀ k, k ≤ l.length → ∀ x, wUp l k = some x → 1 ≤ x ∧ x ≤ 1000000000 := by
  intro k
  induction k with
  | zero => intro _ x hx; simp [wUp] at hx; omega
  | succ k ih =>
    intro hk x hx
    cases e : wUp l k with
    | none => simp [wUp, e] at hx
    | some y =>
      have hy := ih (by omega) y e
      have hs := chS_bd (cfg_sh hc (show k < l.length by omega))
      have h1 : 1 * 1 ≤ y * chS (l.getD k sh0) := Int.mul_le_mul (by omega) (by omega) (by omega) (by omega)
      simp only [wUp, e] at hx
      split at hx
      · cases hx
      · injection hx with hx; omega

theorem impl_ch' {s : Sh} (h : okSh s = true) (w : World) : Calls Try.prog 49 #[.int .i64 (cap s.2.1), .int .i64 s.2.2] w fun e w' => e = .returned (.int .i64 (chS s)) ∧ Below w.heap.size w w' := by
  obtain ⟨_, _, h1, h2, h3, h4⟩ := chS_bd h
  have := impl_ch (cap s.2.1).toNat s.2.2.toNat h3 h4 w
  rw [← h1, ← h2] at this
  exact this
theorem impl_chz {s : Sh} (h : okSh s = true) (z : Int) (hz : chS s = z) (w : World) : Calls Try.prog 49 #[.int .i64 (cap s.2.1), .int .i64 s.2.2] w fun e w' => e = .returned (.int .i64 z) ∧ Below w.heap.size w w' := by
  rw [← hz]; exact impl_ch' h w
theorem spec_ch' {s : Sh} (h : okSh s = true) (w : World) : Calls Try.prog 48 #[.int .i64 (cap s.2.1), .int .i64 s.2.2] w fun e w' => e = .returned (.int .i64 (chS s)) ∧ Below w.heap.size w w' := by
  obtain ⟨_, _, h1, h2, h3, h4⟩ := chS_bd h
  have := spec_ch (cap s.2.1).toNat s.2.2.toNat h3 h4 w
  rw [← h1, ← h2] at this
  exact this.mono fun e w' ⟨he, hw⟩ => ⟨he, by rw [← hw]; exact Below.refl _ _⟩
theorem spec_chz {s : Sh} (h : okSh s = true) (z : Int) (hz : chS s = z) (w : World) : Calls Try.prog 48 #[.int .i64 (cap s.2.1), .int .i64 s.2.2] w fun e w' => e = .returned (.int .i64 z) ∧ Below w.heap.size w w' := by
  rw [← hz]; exact spec_ch' h w
theorem impl_cap' (l : Int) (w : World) : Calls Try.prog 30 #[.int .i64 l] w fun e w' => e = .returned (.int .i64 (cap l)) ∧ Below w.heap.size w w' :=
  (impl_cap l w).mono fun e w' ⟨he, hw⟩ => ⟨he, by rw [← hw]; exact Below.refl _ _⟩
theorem spec_cap' (l : Int) (w : World) : Calls Try.prog 47 #[.int .i64 l] w fun e w' => e = .returned (.int .i64 (cap l)) ∧ Below w.heap.size w w' :=
  (spec_cap l w).mono fun e w' ⟨he, hw⟩ => ⟨he, by rw [← hw]; exact Below.refl _ _⟩

set_option maxHeartbeats 4000000 in
set_option maxRecDepth 20000 in
theorem impl_we (v : Value) (l : List Sh) (w : World) (hv : ShAt w w.heap.size v l) :
    Calls Try.prog 35 #[v] w fun e w' => e = .returned (.int .i64 (weB l)) ∧ Below w.heap.size w w' := by
  have hv0 := hv
  obtain ⟨A, c, rfl, hlc, hcm, hc⟩ := hv
  unfold maxLen at hcm
  cases hb : cfgB l
  · have HE := Lib.hid (show weB l = -1 by simp [weB, hb])
    go_enter Try.func35, Try.ntmps35
    go_wp2_with fail
    refine (impl_cfg _ l _ hv0).mono ?_
    rintro e w1 ⟨rfl, hb1⟩
    rw [hb]
    go_wp2_with fail
    go_ret
    exact ⟨ret_int HE.out.symm, hb1⟩
  · have HE := Lib.hid (show weB l = (wUp l l.length).getD (-1) by simp [weB, hb])
    have HB := Lib.hid (wUp_bd hb)
    have HC := Lib.hid hb
    clear hb
    go_enter Try.func35, Try.ntmps35
    go_wp2_with fail
    refine (impl_cfg _ l _ hv0).mono ?_
    rintro e w1 ⟨rfl, hb1⟩
    rw [HC.out]
    go_wp2_with fail
    go_loopg [3, 11] l.length (fun gk p i wr => ∃ k x, gk = l.length - k ∧ k ≤ l.length ∧ i = .int .i64 (k : Nat) ∧ p = .int .i64 x ∧ wUp l k = some x ∧ Below w.heap.size w wr)
    case atStart => exact ⟨0, 1, rfl, by omega, rfl, rfl, rfl, hb1⟩
    case round =>
      clear hb1
      obtain ⟨k, x, rfl, hk, rfl, rfl, hx, hbel⟩ := hrel
      have hxb := HB.out k hk x hx
      obtain ⟨hx0, hx1⟩ := hxb
      by_cases hlt : k < l.length
      · obtain ⟨b, off, s, rfl, hbl, hbw, hs, c0, c1, c2⟩ := sh_cells hc hbel hlt
        have hlt' : (k : Int) < (l.length : Int) := by omega
        have hsh := cfg_sh HC.out hlt
        have hss : wUp l (k + 1) = if 1000000000 < x * chS (l.getD k sh0) then none else some (x * chS (l.getD k sh0)) := by simp only [wUp, hx]
        rw [← hs] at hss hsh
        have hcb := chS_bd hsh
        obtain ⟨hc0, hc1, hrest⟩ := hcb
        clear hrest
        have hm0 : 1 * 1 ≤ x * chS s := Int.mul_le_mul (by omega) (by omega) (by omega) (by omega)
        have hm1 : x * chS s ≤ 1000000000 * 16384 := Int.mul_le_mul (by omega) (by omega) (by omega) (by omega)
        have LB : Below w.heap.size w (wr.alloc (.cells #[.int .i64 s.1, .int .i64 s.2.1, .int .i64 s.2.2] 34)) := (by repeat (first | exact Below.refl _ _ | assumption | refine bel_drewN ?_ _ | refine bel_drew ?_ | refine bel_alloc ?_ _ | refine bel_set ?_ (by simp; omega) _ | refine bel_set ?_ (by simp) _ | refine bel_trans ?_ (by assumption)))
        have OS := Own.new wr 34 #[.int .i64 s.1, .int .i64 s.2.1, .int .i64 s.2.2]
        have HX := Lib.hid hx
        have HSH := Lib.hid hsh
        obtain ⟨z, hz⟩ : ∃ z, chS s = z := ⟨_, rfl⟩
        rw [hz] at hss hc0 hc1 hm0 hm1
        have HZ := Lib.hid hz
        obtain ⟨y, hy⟩ : ∃ y, x * z = y := ⟨_, rfl⟩
        have ew : IntKind.i64.wrap (x * z) = y := by rw [hy, IntWalk.i64_in _ (by omega)]
        rw [hy] at hss hm0 hm1
        clear hs hx hsh hz hy
        by_cases hbig : 1000000000 < y
        · rw [if_pos hbig] at hss
          have HN := Lib.hid (wUp_none hss l.length (by omega))
          have hd : decide (1000000000 < y) = true := by simpa using hbig
          clear hss
          go_wp2_with fail
          clear c0 c1 c2 hbel
          generalize wr.alloc (.cells #[.int .i64 s.1, .int .i64 s.2.1, .int .i64 s.2.2] 34) = A at *
          have s0 := OS.cell
          have ls := OS.lt
          (refine wp_region_bel (by kernel_rfl) (by kernel_rfl) ?_; (repeat (first | go_big_quiet_skip | (go_big_quiet_want; first | (go_big_quiet_op; go_big_quiet_on) | (unfold Oper.quiet; apply Exists.intro; refine ⟨fun wx hCx => ?_, ?_⟩; (focus (obtain ⟨hcx, hfx⟩ := bcell hCx; go_simp; first | done | exact rfl | exact (impl_cap' s.2.1 _).mono (fun _ _ hz => ⟨hz.1, bel_trans hCx hz.2⟩) | exact (impl_chz HSH.out z HZ.out _).mono (fun _ _ hz => ⟨hz.1, bel_trans hCx hz.2⟩))); simp only [Act.put, List.setIfInBounds_toArray, List.set_cons_zero, List.set_cons_succ]; go_big_quiet_on)))); refine wpQuiet_nil ?_; intro wq hCq)
          go_wp2_with fail
          go_ret
          exact ⟨ret_int (by rw [HE.out, HN.out]; rfl), (by repeat (first | exact Below.refl _ _ | assumption | refine bel_drewN ?_ _ | refine bel_drew ?_ | refine bel_alloc ?_ _ | refine bel_set ?_ (by simp; omega) _ | refine bel_set ?_ (by simp) _ | refine bel_trans ?_ (by assumption)))⟩
        · rw [if_neg hbig] at hss
          have HN := Lib.hid hss
          have hd : decide (1000000000 < y) = false := by simpa using hbig
          clear hss
          go_wp2_with fail
          clear c0 c1 c2 hbel
          generalize wr.alloc (.cells #[.int .i64 s.1, .int .i64 s.2.1, .int .i64 s.2.2] 34) = A at *
          have s0 := OS.cell
          have ls := OS.lt
          (refine wp_region_bel (by kernel_rfl) (by kernel_rfl) ?_; (repeat (first | go_big_quiet_skip | (go_big_quiet_want; first | (go_big_quiet_op; go_big_quiet_on) | (unfold Oper.quiet; apply Exists.intro; refine ⟨fun wx hCx => ?_, ?_⟩; (focus (obtain ⟨hcx, hfx⟩ := bcell hCx; go_simp; first | done | exact rfl | exact (impl_cap' s.2.1 _).mono (fun _ _ hz => ⟨hz.1, bel_trans hCx hz.2⟩) | exact (impl_chz HSH.out z HZ.out _).mono (fun _ _ hz => ⟨hz.1, bel_trans hCx hz.2⟩))); simp only [Act.put, List.setIfInBounds_toArray, List.set_cons_zero, List.set_cons_succ]; go_big_quiet_on)))); refine wpQuiet_nil ?_; intro wq hCq)
          go_wp2_with fail
          go_roundg (l.length - (k + 1))
          case measure => omega
          case rel => exact ⟨k + 1, _, rfl, by omega, by go_num, rfl, HN.out, (by repeat (first | exact Below.refl _ _ | assumption | refine bel_drewN ?_ _ | refine bel_drew ?_ | refine bel_alloc ?_ _ | refine bel_set ?_ (by simp; omega) _ | refine bel_set ?_ (by simp) _ | refine bel_trans ?_ (by assumption)))⟩
      · have HK := Lib.hid (show k = l.length by omega)
        have HX := Lib.hid hx
        clear hx
        go_wp2_with fail
        go_ret
        exact ⟨ret_int (by rw [HE.out, ← HK.out, HX.out]; rfl), hbel⟩

set_option maxHeartbeats 4000000 in
set_option maxRecDepth 20000 in
theorem spec_we (v : Value) (l : List Sh) (w : World) (hv : ShAt w w.heap.size v l) :
    Calls Try.prog 34 #[v] w fun e w' => e = .returned (.int .i64 (weB l)) ∧ Below w.heap.size w w' := by
  have hv0 := hv
  obtain ⟨A, c, rfl, hlc, hcm, hc⟩ := hv
  unfold maxLen at hcm
  cases hb : cfgB l
  · have HE := Lib.hid (show weB l = -1 by simp [weB, hb])
    go_enter Try.func34, Try.ntmps34
    go_wp2_with fail
    refine (spec_cfg _ l _ hv0).mono ?_
    rintro e w1 ⟨rfl, hb1⟩
    rw [hb]
    go_wp2_with fail
    go_ret
    exact ⟨ret_int HE.out.symm, hb1⟩
  · have HE := Lib.hid (show weB l = (wUp l l.length).getD (-1) by simp [weB, hb])
    have HB := Lib.hid (wUp_bd hb)
    have HC := Lib.hid hb
    clear hb
    go_enter Try.func34, Try.ntmps34
    go_wp2_with fail
    refine (spec_cfg _ l _ hv0).mono ?_
    rintro e w1 ⟨rfl, hb1⟩
    rw [HC.out]
    go_wp2_with fail
    go_loopg [3, 4] l.length (fun gk p i wr => ∃ k x, gk = l.length - k ∧ k ≤ l.length ∧ i = .int .i64 (k : Nat) ∧ p = .int .i64 x ∧ wUp l k = some x ∧ Below w.heap.size w wr)
    case atStart => exact ⟨0, 1, rfl, by omega, rfl, rfl, rfl, hb1⟩
    case round =>
      clear hb1
      obtain ⟨k, x, rfl, hk, rfl, rfl, hx, hbel⟩ := hrel
      have hxb := HB.out k hk x hx
      obtain ⟨hx0, hx1⟩ := hxb
      by_cases hlt : k < l.length
      · obtain ⟨b, off, s, rfl, hbl, hbw, hs, c0, c1, c2⟩ := sh_cells hc hbel hlt
        have hlt' : (k : Int) < (l.length : Int) := by omega
        have hsh := cfg_sh HC.out hlt
        have hss : wUp l (k + 1) = if 1000000000 < x * chS (l.getD k sh0) then none else some (x * chS (l.getD k sh0)) := by simp only [wUp, hx]
        rw [← hs] at hss hsh
        have hcb := chS_bd hsh
        obtain ⟨hc0, hc1, hrest⟩ := hcb
        clear hrest
        have hm0 : 1 * 1 ≤ x * chS s := Int.mul_le_mul (by omega) (by omega) (by omega) (by omega)
        have hm1 : x * chS s ≤ 1000000000 * 16384 := Int.mul_le_mul (by omega) (by omega) (by omega) (by omega)
        have LB := hbel
        clear hc
        have HX := Lib.hid hx
        have HSH := Lib.hid hsh
        obtain ⟨z, hz⟩ : ∃ z, chS s = z := ⟨_, rfl⟩
        rw [hz] at hss hc0 hc1 hm0 hm1
        have HZ := Lib.hid hz
        obtain ⟨y, hy⟩ : ∃ y, x * z = y := ⟨_, rfl⟩
        have ew : IntKind.i64.wrap (x * z) = y := by rw [hy, IntWalk.i64_in _ (by omega)]
        rw [hy] at hss hm0 hm1
        clear hs hx hsh hz hy
        by_cases hbig : 1000000000 < y
        · rw [if_pos hbig] at hss
          have HN := Lib.hid (wUp_none hss l.length (by omega))
          have hd : decide (1000000000 < y) = true := by simpa using hbig
          clear hss
          go_wp2_with fail
          clear hbel
          (refine wp_region_bel (by kernel_rfl) (by kernel_rfl) ?_; (repeat (first | go_big_quiet_skip | (go_big_quiet_want; first | (go_big_quiet_op; go_big_quiet_on) | (unfold Oper.quiet; apply Exists.intro; refine ⟨fun wx hCx => ?_, ?_⟩; (focus (obtain ⟨hcx, hfx⟩ := bcell hCx; go_simp; first | done | exact rfl | exact (spec_cap' s.2.1 _).mono (fun _ _ hz => ⟨hz.1, bel_trans hCx hz.2⟩) | exact (spec_chz HSH.out z HZ.out _).mono (fun _ _ hz => ⟨hz.1, bel_trans hCx hz.2⟩))); simp only [Act.put, List.setIfInBounds_toArray, List.set_cons_zero, List.set_cons_succ]; go_big_quiet_on)))); refine wpQuiet_nil ?_; intro wq hCq)
          go_wp2_with fail
          go_ret
          exact ⟨ret_int (by rw [HE.out, HN.out]; rfl), (by repeat (first | exact Below.refl _ _ | assumption | refine bel_drewN ?_ _ | refine bel_drew ?_ | refine bel_alloc ?_ _ | refine bel_set ?_ (by simp; omega) _ | refine bel_set ?_ (by simp) _ | refine bel_trans ?_ (by assumption)))⟩
        · rw [if_neg hbig] at hss
          have HN := Lib.hid hss
          have hd : decide (1000000000 < y) = false := by simpa using hbig
          clear hss
          go_wp2_with fail
          clear hbel
          (refine wp_region_bel (by kernel_rfl) (by kernel_rfl) ?_; (repeat (first | go_big_quiet_skip | (go_big_quiet_want; first | (go_big_quiet_op; go_big_quiet_on) | (unfold Oper.quiet; apply Exists.intro; refine ⟨fun wx hCx => ?_, ?_⟩; (focus (obtain ⟨hcx, hfx⟩ := bcell hCx; go_simp; first | done | exact rfl | exact (spec_cap' s.2.1 _).mono (fun _ _ hz => ⟨hz.1, bel_trans hCx hz.2⟩) | exact (spec_chz HSH.out z HZ.out _).mono (fun _ _ hz => ⟨hz.1, bel_trans hCx hz.2⟩))); simp only [Act.put, List.setIfInBounds_toArray, List.set_cons_zero, List.set_cons_succ]; go_big_quiet_on)))); refine wpQuiet_nil ?_; intro wq hCq)
          go_wp2_with fail
          go_roundg (l.length - (k + 1))
          case measure => omega
          case rel => exact ⟨k + 1, _, rfl, by omega, by go_num, rfl, HN.out, (by repeat (first | exact Below.refl _ _ | assumption | refine bel_drewN ?_ _ | refine bel_drew ?_ | refine bel_alloc ?_ _ | refine bel_set ?_ (by simp; omega) _ | refine bel_set ?_ (by simp) _ | refine bel_trans ?_ (by assumption)))⟩
      · have HK := Lib.hid (show k = l.length by omega)
        have HX := Lib.hid hx
        clear hx
        go_wp2_with fail
        go_ret
        exact ⟨ret_int (by rw [HE.out, ← HK.out, HX.out]; rfl), hbel⟩

end Go.Proofs.Ytocknafdgeneoaa
