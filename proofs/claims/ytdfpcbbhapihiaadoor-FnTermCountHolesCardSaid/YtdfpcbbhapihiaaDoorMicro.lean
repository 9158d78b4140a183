/-
  Contracts of the functions that count microstates.
-/
import Derived.Test.YtdfpcbbhapihiaaDoorScalar
import Derived.Test.YtdfpcbbhapihiaaDoorMicroBits
import Derived.Test.YtdfpcbbhapihiaaDoorPairs
namespace Go.Proofs.YtdfpcbbhapihiaaDoor
open Go.ChangeShapes Go.WideShapes Go.ChangeAt Go.RowKit Go.Deep Go.Joins micro
set_option linter.unusedVariables false

/-- the library's table is laid -/
def Tab (w : World) : Prop := ∀ i, i < 64 → w.cell? ⟨1, i, none⟩ = some (.int .u8 (dbTab.getD i 0))
theorem Tab.lt {w : World} (h : Tab w) : 1 < w.heap.size := World.block_lt_of_cell? w _ (h 0 (by omega))
theorem Tab.below {w w' : World} {B : Nat} (h : Tab w) (hb : Below B w w') (hB : 1 < B) : Tab w' := fun i hi => (hb.cell (p := ⟨1, i, none⟩) hB).trans (h i hi)
theorem Tab.bel {w w' : World} (h : Tab w) (hb : Below w.heap.size w w') : Tab w' := h.below hb h.lt

theorem inR_bd {z : Int} (h : inR z = true) : 0 ≤ z ∧ z ≤ 2000 := by simpa [inR] using h
theorem ones64 (x : Nat) (hx : x < 1024) (w : World) : Calls Tryd.prog 38 #[.int .u64 x] w fun e w' => e = .returned (.int .i64 (pop x)) ∧ w = w' := by
  have h := List.all_eq_true.1 onesAll x (by simpa using hx)
  simp only [Bool.and_eq_true] at h
  obtain ⟨⟨⟨⟨⟨h1, h2⟩, h3⟩, h4⟩, h5⟩, h6⟩ := h
  have hk := Lib.hid (by simpa using h6 : oK x = (pop x : Int))
  obtain ⟨a1, a2⟩ := inR_bd h1
  obtain ⟨b1, b2⟩ := inR_bd h2
  obtain ⟨d1, d2⟩ := inR_bd h3
  obtain ⟨e1, e2⟩ := inR_bd h4
  obtain ⟨g1, g2⟩ := inR_bd h5
  have eA : bits .and .u64 ((x : Int) / 2) 6148914691236517205 = oA x := rfl
  have eB : bits .and .u64 (x : Int) 6148914691236517205 = oB x := rfl
  have eD : bits .and .u64 ((oA x + oB x) / 4) 3689348814741910323 = oD x := rfl
  have eE : bits .and .u64 (oA x + oB x) 3689348814741910323 = oE x := rfl
  have eG : bits .and .u64 ((oD x + oE x) / 16 + (oD x + oE x)) 1085102592571150095 = oG x := rfl
  have eK : bits .and .i64 (oG x + oG x / 256 + (oG x + oG x / 256) / 65536 + (oG x + oG x / 256 + (oG x + oG x / 256) / 65536) / 4294967296) 127 = oK x := rfl
  clear h1 h2 h3 h4 h5 h6
  generalize oA x = oa at *
  generalize oB x = ob at *
  generalize oD x = od at *
  generalize oE x = oe at *
  generalize oG x = og at *
  generalize oK x = ok at *
  go_enter Tryd.func38, Tryd.ntmps38
  go_wp2
  go_ret
  exact ⟨ret_int hk.out, rfl⟩
theorem ctz64 (x : Nat) (hx : x < 1024) (h0 : x ≠ 0) (w : World) (hT : Tab w) : Calls Tryd.prog 40 #[.int .u64 x] w fun e w' => e = .returned (.int .i64 (low x)) ∧ w = w' := by
  have h := List.all_eq_true.1 ctzAll x (by simpa using hx)
  simp only [Bool.or_eq_true, Bool.and_eq_true, decide_eq_true_eq, beq_iff_eq] at h
  obtain ⟨⟨d0, d1⟩, d2⟩ := h.resolve_left (by omega)
  have hc := hT (dbi x).toNat (by omega)
  rw [d2] at hc
  have e1 : IntKind.u64.wrap (bits .and .u64 (x : Int) (IntKind.u64.wrap (-(x : Int))) * 285870213051353865) / 288230376151711744 = dbi x := rfl
  have h1 : ((x : Int) == 0) = false := by simp [h0]
  have hlo : low x ≤ 64 := by
    unfold low
    cases h : (List.range 10).find? x.testBit with
    | none => simp
    | some i => have := List.mem_of_find?_eq_some h; simp at this; simp; omega
  generalize dbi x = i at *
  clear h d2 hT h0
  go_enter Tryd.func40, Tryd.ntmps40
  go_wp2
  go_ret
  exact ⟨rfl, rfl⟩
theorem ones (x : Nat) (hx : x < 1024) (w : World) : Calls Tryd.prog 35 #[.int .u64 x] w fun e w' => e = .returned (.int .i64 (pop x)) ∧ w = w' := by
  go_enter Tryd.func35, Tryd.ntmps35
  go_wp2_with (go_at_call 38; refine (ones64 x hx _).mono ?_; rintro e w' ⟨rfl, rfl⟩)
  go_ret
  exact ⟨rfl, rfl⟩
theorem ctz (x : Nat) (hx : x < 1024) (h0 : x ≠ 0) (w : World) (hT : Tab w) : Calls Tryd.prog 36 #[.int .u64 x] w fun e w' => e = .returned (.int .i64 (low x)) ∧ w = w' := by
  have H0 := Lib.hid h0
  clear h0
  go_enter Tryd.func36, Tryd.ntmps36
  go_wp2_with (go_at_call 40; refine (ctz64 x hx H0.out _ hT).mono ?_; rintro e w' ⟨rfl, rfl⟩)
  go_ret
  exact ⟨rfl, rfl⟩
/-- there can be n electrons in a shell with the orbital number l -/
def evB (l n : Int) : Bool := inB l 0 2 && inB n 0 (4 * l + 2)
theorem evB_true {l n : Int} : evB l n = true ↔ 0 ≤ l ∧ l ≤ 2 ∧ 0 ≤ n ∧ n ≤ 4 * l + 2 := by simp [evB, inB]; omega
theorem evB_false {l n : Int} : evB l n = false ↔ l < 0 ∨ 2 < l ∨ n < 0 ∨ 4 * l + 2 < n := by rw [← Bool.not_eq_true, evB_true]; omega

theorem impl_ev (l n : Int) (w : World) : Calls Tryd.prog 23 #[.int .i64 l, .int .i64 n] w fun e w' => e = .returned (.bool (evB l n)) ∧ w = w' := by
  by_cases h0 : 0 ≤ l
  · by_cases h1 : l ≤ 2
    · have hc : cap l = 4 * l + 2 := if_neg (by omega)
      by_cases h2 : 0 ≤ n
      · by_cases h3 : n ≤ 4 * l + 2
        · have HB := Lib.hid (evB_true.2 ⟨h0, h1, h2, h3⟩)
          go_enter Tryd.func23, Tryd.ntmps23
          go_wp2_with (go_at_call 34; refine (impl_cap _ _).mono ?_; rintro e w' ⟨rfl, rfl⟩)
          go_ret
          exact ⟨ret_bool HB.out.symm, rfl⟩
        · have HB := Lib.hid (evB_false.2 (by omega) : evB l n = false)
          have hd : decide (n ≤ 4 * l + 2) = false := by simpa using h3
          go_enter Tryd.func23, Tryd.ntmps23
          go_wp2_with (go_at_call 34; refine (impl_cap _ _).mono ?_; rintro e w' ⟨rfl, rfl⟩)
          go_ret
          exact ⟨ret_bool HB.out.symm, rfl⟩
      all_goals
        have HB := Lib.hid (evB_false.2 (by omega) : evB l n = false)
        go_enter Tryd.func23, Tryd.ntmps23
        go_wp2_with fail
        go_ret
        exact ⟨ret_bool HB.out.symm, rfl⟩
    all_goals
      have HB := Lib.hid (evB_false.2 (by omega) : evB l n = false)
      go_enter Tryd.func23, Tryd.ntmps23
      go_wp2_with fail
      go_ret
      exact ⟨ret_bool HB.out.symm, rfl⟩
  all_goals
    have HB := Lib.hid (evB_false.2 (by omega) : evB l n = false)
    go_enter Tryd.func23, Tryd.ntmps23
    go_wp2_with fail
    go_ret
    exact ⟨ret_bool HB.out.symm, rfl⟩

theorem spec_ok (l n : Int) (w : World) : Calls Tryd.prog 25 #[.int .i64 l, .int .i64 n] w fun e w' => e = .returned (.bool (evB l n)) ∧ w = w' := by
  cases h0 : inB l 0 2
  · have HB := Lib.hid (by simp [evB, h0] : evB l n = false)
    go_enter Tryd.func25, Tryd.ntmps25
    go_wp2_with (go_at_call 27; refine (in_any _ _ _ _).mono ?_; rintro e w' ⟨rfl, rfl⟩)
    go_ret
    exact ⟨ret_bool HB.out.symm, rfl⟩
  · have hb := inB_true.1 h0
    cases h1 : inB n 0 (4 * l + 2)
    · have HB := Lib.hid (by simp [evB, h1] : evB l n = false)
      go_enter Tryd.func25, Tryd.ntmps25
      go_wp2_with (go_at_call 27; refine (in_any _ _ _ _).mono ?_; rintro e w' ⟨rfl, rfl⟩)
      go_ret
      exact ⟨ret_bool HB.out.symm, rfl⟩
    · have HB := Lib.hid (by simp [evB, h0, h1] : evB l n = true)
      go_enter Tryd.func25, Tryd.ntmps25
      go_wp2_with (go_at_call 27; refine (in_any _ _ _ _).mono ?_; rintro e w' ⟨rfl, rfl⟩)
      go_ret
      exact ⟨ret_bool HB.out.symm, rfl⟩

/-- the sums of all microstates of n electrons, in the order of their numbers -/
def msUp (l : Nat) (n : Int) (k : Nat) : List Pr := ((List.range k).filter fun x => (pop x : Int) == n).map fun x => (G (2 * l + 1) (-(l : Int)) x).2
theorem msUp_succ (l : Nat) (n : Int) (k : Nat) : msUp l n (k + 1) = msUp l n k ++ if (pop k : Int) = n then [(G (2 * l + 1) (-(l : Int)) k).2] else [] := by
  unfold msUp
  rw [List.range_succ, List.filter_append, List.map_append]
  by_cases h : (pop k : Int) = n
  · simp [h, List.filter_cons]
  · simp [h, List.filter_cons]
theorem msUp_le (l : Nat) (n : Int) (k : Nat) : (msUp l n k).length ≤ k := by
  unfold msUp
  rw [List.length_map]
  exact Nat.le_trans (List.length_filter_le _ _) (by simp)
def ms (l : Nat) (n : Int) : List Pr := msUp l n (4 ^ (2 * l + 1))
theorem step_all {l : Nat} (hl : l ≤ 2) : okStep l = true := by
  match l, hl with
  | 0, _ => exact step0
  | 1, _ => exact step1
  | 2, _ => exact step2
theorem step_of {l : Nat} (hl : l ≤ 2) {x : Nat} (hx : x < 4 ^ (2 * l + 1)) (h0 : x ≠ 0) :
    (G (2 * l + 1) (-(l : Int)) x).2.1 = (G (2 * l + 1) (-(l : Int)) (rest x)).2.1 + ((low x : Int) / 2 - l) ∧
    (G (2 * l + 1) (-(l : Int)) x).2.2 = (G (2 * l + 1) (-(l : Int)) (rest x)).2.2 + ((low x : Int) % 2 * 2 - 1) := by
  have h := step_all hl
  unfold okStep at h
  have h := List.all_eq_true.1 h x (by simpa using hx)
  simp only [Bool.and_eq_true, Bool.or_eq_true, beq_iff_eq] at h
  exact h.1.1.1.resolve_left h0
theorem pop_of {l : Nat} (hl : l ≤ 2) {x : Nat} (hx : x < 4 ^ (2 * l + 1)) : (G (2 * l + 1) (-(l : Int)) x).1 = (pop x : Int) ∧
    -6 ≤ (G (2 * l + 1) (-(l : Int)) x).2.1 ∧ (G (2 * l + 1) (-(l : Int)) x).2.1 ≤ 6 ∧ -6 ≤ (G (2 * l + 1) (-(l : Int)) x).2.2 ∧ (G (2 * l + 1) (-(l : Int)) x).2.2 ≤ 6 := by
  have h := step_all hl
  unfold okStep at h
  have h := List.all_eq_true.1 h x (by simpa using hx)
  simp only [Bool.and_eq_true, beq_iff_eq] at h
  obtain ⟨⟨⟨_, h1⟩, h2⟩, h3⟩ := h
  simp only [okStep.inB20, Bool.and_eq_true, decide_eq_true_eq] at h2 h3
  exact ⟨h1, h2.1, h2.2, h3.1, h3.2⟩
theorem rest_of {x : Nat} (hx : x < 1024) (h0 : x ≠ 0) : rest x < x ∧ bits .and .u64 (x : Int) ((x : Int) - 1) = (rest x : Int) ∧ low x < 10 := by
  have h := List.all_eq_true.1 restAll x (by simpa using hx)
  simp only [Bool.and_eq_true, Bool.or_eq_true, beq_iff_eq, decide_eq_true_eq] at h
  obtain ⟨⟨h1, h2⟩, h3⟩ := h.resolve_left h0
  exact ⟨h1, h2, h3⟩
theorem four_le {l : Nat} (hl : l ≤ 2) : 4 ^ (2 * l + 1) ≤ 1024 := by
  match l, hl with
  | 0, _ => decide
  | 1, _ => decide
  | 2, _ => decide
/-- what a call that lists microstates leaves -/
def SumsEnd (l : List Pr) (w : World) (e : Ending) (w' : World) : Prop := ∃ v, e = .returned v ∧ OwnP 45 w' w.heap.size v l ∧ Below w.heap.size w w'
theorem sumsInfo : (Tryd.prog.info? 45).map (fun i => (i.zero, i.size, i.bytes)) = some (some (.agg #[.int .i64 0, .int .i64 0]), 2, 16) := by kernel_rfl

set_option maxHeartbeats 4000000 in
theorem impl_ms (l : Nat) (n : Int) (hl : l ≤ 2) (w : World) (hT : Tab w) :
    Calls Tryd.prog 24 #[.int .i64 l, .int .i64 n] w (SumsEnd (ms l n) w) := by
  have hc : cap (l : Int) = ((4 * l + 2 : Nat) : Int) := by unfold cap; rw [if_neg (by omega)]; omega
  have h4 := four_le hl
  have hTl := hT.lt
  have hms : ms l n = msUp l n (4 ^ (2 * l + 1)) := rfl
  have hpo := Lib.hid (fun x => @pop_of l hl x)
  have hst := Lib.hid (fun x => @step_of l hl x)
  have ew : IntKind.u64.wrap ((2 : Int) ^ (4 * l + 2)) = ((4 ^ (2 * l + 1) : Nat) : Int) := by
    have h3 : l = 0 ∨ l = 1 ∨ l = 2 := by omega
    rcases h3 with rfl | rfl | rfl <;> rfl
  generalize 4 ^ (2 * l + 1) = N at *
  have HM := Lib.hid hms
  have HT := Lib.hid hT
  clear hms hT
  go_enter Tryd.func24, Tryd.ntmps24
  go_wp2_with (go_at_call 34; refine (impl_cap _ _).mono ?_; rintro e w' ⟨rfl, rfl⟩)
  rw [ew]
  go_loopg [5, 13] N (fun gk v0 i wr => ∃ (k : Nat) (v : Value), v = v0 ∧ gk = N - k ∧ k ≤ N ∧ i = .int .u64 k ∧ OwnP 45 wr w.heap.size v (msUp l n k) ∧ Below w.heap.size w wr)
  case atStart => exact ⟨0, _, rfl, rfl, by omega, rfl, OwnP.nil _ _, Below.refl _ _⟩
  case round =>
    clear hc ew
    obtain ⟨k, v, rfl, rfl, hk, rfl, hown, hbel⟩ := hrel
    by_cases hlt : k < N
    · have hlt' : (k : Int) < (N : Int) := by omega
      have hsu := msUp_succ l n k
      by_cases hp : (pop k : Int) = n
      · rw [if_pos hp] at hsu
        have HS := Lib.hid hsu
        have hpd : ((pop k : Int) != n) = false := by simp [hp]
        have hle := msUp_le l n k
        obtain ⟨_, p1, p2, p3, p4⟩ := hpo.out k hlt
        clear hsu hp
        go_wp2_with (go_at_call 35; refine (ones k (by omega) _).mono ?_; rintro e w' ⟨rfl, rfl⟩)
        have O := Own.new wr 45 #[.int .i64 0, .int .i64 0]
        have hblk := World.ownsRow.lt hown
        have hown := hown.alloc (.cells #[.int .i64 0, .int .i64 0] 45)
        have hz := hbel.size
        have hbel := bel_alloc hbel (.cells #[.int .i64 0, .int .i64 0] 45)
        obtain ⟨b, hb⟩ : ∃ b, wr.heap.size = b := ⟨_, rfl⟩
        rw [hb] at O hz ⊢
        have hne := Lib.hid (show v.ownBlock ≠ some b from fun e => by have := hblk b e; omega)
        clear hblk
        go_loopg [8] k (fun gk r wi => ∃ (y : Nat) (o s : Int), y = gk ∧ y ≤ k ∧ r = .int .u64 y ∧ o + (G (2 * l + 1) (-(l : Int)) y).2.1 = (G (2 * l + 1) (-(l : Int)) k).2.1 ∧ s + (G (2 * l + 1) (-(l : Int)) y).2.2 = (G (2 * l + 1) (-(l : Int)) k).2.2 ∧
          Own wi b 45 #[.int .i64 o, .int .i64 s] ∧ OwnP 45 wi w.heap.size v (msUp l n k) ∧ Below w.heap.size w wi)
        case atStart => exact ⟨k, 0, 0, rfl, Nat.le_refl _, rfl, by omega, by omega, O, hown, hbel⟩
        case round =>
          clear O hown hbel hb
          obtain ⟨y, o, s, rfl, hy, rfl, ho, hs, O, hown, hbel⟩ := hrel
          obtain ⟨_, q1, q2, q3, q4⟩ := hpo.out y (by omega)
          have c0 := O.cell
          have f0 := O.frozen
          have lb := O.lt
          by_cases hy0 : y = 0
          · have hg0 : G (2 * l + 1) (-(l : Int)) y = (0, 0, 0) := by rw [hy0]; exact G_zero _ _
            rw [hg0] at ho hs
            have e1 : (G (2 * l + 1) (-(l : Int)) k).2 = (o, s) := by
              rw [Prod.ext_iff]; simp only at ho hs ⊢; omega
            have HE := Lib.hid e1
            have hyd : ((y : Int) != 0) = false := by simp [hy0]
            have hzi := hbel.size
            clear hg0 ho hs e1 hy0 q1 q2 q3 q4 p1 p2 p3 p4
            go_wp2_with (at_builtin; refine app_pair Tryd.underlying42 sumsInfo w.heap.size rfl 45 47 rfl _ (msUp l n k) rfl (hown.alloc _) (by simp; omega) _ (o, s) rfl (own_here' (by first | rfl | simp)) (by omega) ?_; intro v' w2 hown' hgr _)
            have hb2 : Below w.heap.size w w2 := (bel_alloc hbel _).grown hgr (by simp; omega) (fun k hk => (World.ownsRow.lt hown k hk).1)
            clear hgr hown hbel
            go_wp2_with fail
            go_roundg (N - (k + 1))
            case measure => omega
            case rel => exact ⟨k + 1, _, rfl, rfl, by omega, by go_num, by rw [HS.out, HE.out]; exact hown', hb2⟩
          · have hyd : ((y : Int) != 0) = true := by simp [hy0]
            obtain ⟨r1, r2, r3⟩ := rest_of (by omega) hy0
            obtain ⟨s1, s2⟩ := hst.out y (by omega) hy0
            have H0 := Lib.hid hy0
            have HG := Lib.hid ho
            have HG2 := Lib.hid hs
            have HS1 := Lib.hid s1
            have HS2 := Lib.hid s2
            have b1 : -20 ≤ o ∧ o ≤ 20 := by omega
            have b2 : -20 ≤ s ∧ s ≤ 20 := by omega
            obtain ⟨b11, b12⟩ := b1
            obtain ⟨b21, b22⟩ := b2
            clear ho hs s1 s2 hy0 q1 q2 q3 q4 p1 p2 p3 p4
            go_wp2_with (go_at_call 36; refine (ctz y (by omega) H0.out _ (HT.out.below hbel hTl)).mono ?_; rintro e w' ⟨rfl, rfl⟩)
            go_roundg (rest y)
            case measure => exact r1
            case rel => exact ⟨rest y, _, _, rfl, by omega, rfl, by have := HG.out; have := HS1.out; omega, by have := HG2.out; have := HS2.out; omega, (O.set_ 0 _).set_ 1 _, (hown.far (p := ⟨b, 0, none⟩) hne.out _).far (p := ⟨b, 1, none⟩) hne.out _, bel_set (bel_set hbel (p := ⟨b, 0, none⟩) hz _) (p := ⟨b, 1, none⟩) hz _⟩
      · rw [if_neg hp, List.append_nil] at hsu
        have HS := Lib.hid hsu
        have hpd : ((pop k : Int) != n) = true := by simp [hp]
        clear hsu hp
        go_wp2_with (go_at_call 35; refine (ones k (by omega) _).mono ?_; rintro e w' ⟨rfl, rfl⟩)
        go_roundg (N - (k + 1))
        case measure => omega
        case rel => exact ⟨k + 1, _, rfl, rfl, by omega, by go_num, by rw [HS.out]; exact hown, hbel⟩
    · have hkn : k = N := by omega
      have HK := Lib.hid hkn
      clear hkn
      go_wp2_with fail
      go_ret
      exact ⟨_, rfl, by rw [HM.out, ← HK.out]; exact hown, hbel⟩

end Go.Proofs.YtdfpcbbhapihiaaDoor
