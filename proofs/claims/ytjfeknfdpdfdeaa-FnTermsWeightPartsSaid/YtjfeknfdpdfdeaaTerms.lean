/-
  Slices of terms: copies, comparison, weights.
-/
import Derived.Test.YtjfeknfdpdfdeaaPairs
import Derived.Test.YtjfeknfdpdfdeaaScalar
import Derived.Deep.SlicePairs
import Derived.Deep.Strs
namespace Go.Proofs.Ytjfeknfdpdfdeaa
open Go.ChangeShapes Go.WideShapes Go.ChangeAt Go.RowKit Go.Deep Go.Joins
set_option linter.unusedVariables false

/-- block g is a list of terms -/
def Row2 (w : World) (g : Nat) (l : List Pr) : Prop := Own w g 34 (flat2 l).toArray
theorem flat2_getD (l : List Pr) {i : Nat} {s : Pr} (h : l[i]? = some s) : (flat2 l).toArray[i * 2]? = some (.int .i64 s.1) ∧ (flat2 l).toArray[i * 2 + 1]? = some (.int .i64 s.2) := by
  simpa using flat2_get l i s h
theorem Row2.at_ {w : World} {g B : Nat} {l : List Pr} (h : Row2 w g l) (hB : g < B) (hm : l.length ≤ maxLen) : PrAt w B (.slice (some ⟨g, 0, none⟩) l.length l.length) l := by
  refine ⟨_, _, rfl, Nat.le_refl _, hm, fun _ => ⟨g, 0, rfl, hB, fun i s hs => ?_⟩⟩
  obtain ⟨a, b⟩ := flat2_getD l hs
  simp only [Nat.zero_add]
  exact ⟨(Own.cell h _).trans a, (Own.cell h _).trans b⟩
theorem Row2.below {w w' : World} {g : Nat} {l : List Pr} (h : Row2 w g l) (hb : Below w.heap.size w w') : Row2 w' g l := Own.below h hb
def Upto2 (cur : Array Value) (l : List Pr) (k : Nat) : Prop :=
  l.length * 2 ≤ cur.size ∧ ∀ (i : Nat) (s : Pr), i < k → l[i]? = some s → cur[i * 2]? = some (.int .i64 s.1) ∧ cur[i * 2 + 1]? = some (.int .i64 s.2)
theorem Upto2.set_ {cur : Array Value} {l : List Pr} {k : Nat} {s : Pr} (h : Upto2 cur l k) (hs : l[k]? = some s) :
    Upto2 ((cur.setIfInBounds (k * 2) (.int .i64 s.1)).setIfInBounds (k * 2 + 1) (.int .i64 s.2)) l (k + 1) := by
  have hk : k < l.length := (List.getElem?_eq_some_iff.1 hs).1
  refine ⟨by simpa using h.1, fun i t hi ht => ?_⟩
  by_cases e : i = k
  · subst e
    rw [hs] at ht
    injection ht with ht
    subst ht
    have := h.1
    refine ⟨?_, ?_⟩ <;> simp only [Array.getElem?_setIfInBounds, Array.size_setIfInBounds]
    · rw [if_neg (by omega), if_pos trivial, if_pos (by omega)]
    · rw [if_pos trivial, if_pos (by omega)]
  · obtain ⟨a, b⟩ := h.2 i t (by omega) ht
    refine ⟨?_, ?_⟩ <;> simp only [Array.getElem?_setIfInBounds] <;> rw [if_neg (by omega), if_neg (by omega)] <;> assumption
theorem Upto2.done {cur : Array Value} {l : List Pr} (h : Upto2 cur l l.length) (hz : cur.size = l.length * 2) : cur = (flat2 l).toArray := by
  apply Array.ext_getElem?
  intro j
  by_cases hj : j < l.length * 2
  · have hi : j / 2 < l.length := by omega
    obtain ⟨a, b⟩ := h.2 (j / 2) _ hi (List.getElem?_eq_getElem hi)
    obtain ⟨a', b'⟩ := flat2_getD l (List.getElem?_eq_getElem hi)
    rcases (by omega : j = j / 2 * 2 ∨ j = j / 2 * 2 + 1) with e | e
    · rw [← e] at a a'; rw [a, a']
    · rw [← e] at b b'; rw [b, b']
  · rw [Array.getElem?_eq_none (by omega), Array.getElem?_eq_none (by simp [flat2_length]; omega)]

theorem termInfo : (Try.prog.info? 34).map (fun i => (i.zero, i.size, i.bytes)) = some (some (.agg #[.int .i64 0, .int .i64 0]), 2, 16) := by kernel_rfl

theorem pr_cell {w wr : World} {A : Option Addr} {l : List Pr} {k : Nat}
    (hc : 0 < l.length → ∃ b off, A = some ⟨b, off, none⟩ ∧ b < w.heap.size ∧ ∀ i s, l[i]? = some s → w.cell? ⟨b, off + i * 2, none⟩ = some (.int .i64 s.1) ∧ w.cell? ⟨b, off + i * 2 + 1, none⟩ = some (.int .i64 s.2))
    (hbel : Below w.heap.size w wr) (hk : k < l.length) :
    ∃ b off s, A = some ⟨b, off, none⟩ ∧ b < w.heap.size ∧ b < wr.heap.size ∧ l[k]? = some s ∧ wr.cell? ⟨b, off + k * 2, none⟩ = some (.int .i64 s.1) ∧ wr.cell? ⟨b, off + k * 2 + 1, none⟩ = some (.int .i64 s.2) := by
  obtain ⟨b, off, hA, hb, h⟩ := hc (by omega)
  obtain ⟨c0, c1⟩ := h k _ (List.getElem?_eq_getElem hk)
  have := hbel.size
  exact ⟨b, off, _, hA, hb, by omega, List.getElem?_eq_getElem hk, (hbel.cell (p := ⟨b, off + k * 2, none⟩) hb).trans c0, (hbel.cell (p := ⟨b, off + k * 2 + 1, none⟩) hb).trans c1⟩

set_option maxHeartbeats 2000000 in
theorem to_terms (v : Value) (l : List Pr) (w : World) (hv : PrAt w w.heap.size v l) (hn : l.length ≤ 1048576) :
    Calls Try.prog 7 #[v] w fun e w' => e = .returned (.slice (some ⟨w.heap.size, 0, none⟩) l.length l.length) ∧ Row2 w' w.heap.size l ∧ Below w.heap.size w w' := by
  obtain ⟨A, c, rfl, hlc, hcm, hc⟩ := hv
  obtain ⟨i0, hi, hz0, hz1, hz2⟩ := info_parts termInfo
  unfold maxLen at hcm
  go_enter Try.func7, Try.ntmps7
  go_wp2_with (with_reducible refine wpList_make_full _ rfl (.tmp 6) (.tmp 6) 25 rfl w.heap.size 34 i0 _ 2 Try.underlying25 hi hz0 hz1 .i64 .i64 l.length l.length l.length rfl rfl rfl rfl (by rw [hz2]; omega) (by simp [maxLen]; omega) (Nat.le_refl _) ?_; intro w1 hown1 hg1)
  have hb1 : Below w.heap.size w w1 := (Below.refl _ _).grown hg1 (Nat.le_refl _) (by simp)
  obtain ⟨cur1, hcur1, hsz1⟩ : ∃ cur, Own w1 w.heap.size 34 cur ∧ cur.size = l.length * 2 := by
    rcases hown1.2 with ⟨h, _⟩ | ⟨g, cap, cur, h, hb, hg, hnc, hcm, hsz, htk⟩
    · cases h
    · injection h with h h2 h3
      injection h with h
      injection h with h
      subst h
      exact ⟨cur, hg, by omega⟩
  clear hown1 hg1
  go_loopg [4] l.length (fun gk i wr => ∃ k : Nat, gk = l.length - k ∧ k ≤ l.length ∧ i = .int .i64 k ∧ (∃ cur, Own wr w.heap.size 34 cur ∧ Upto2 cur l k ∧ cur.size = l.length * 2) ∧ Below w.heap.size w wr)
  case atStart => exact ⟨0, rfl, by omega, rfl, ⟨cur1, hcur1, ⟨by omega, fun i s hi => by omega⟩, hsz1⟩, hb1⟩
  case round =>
    clear hcur1 hsz1 hb1
    obtain ⟨k, rfl, hk, rfl, ⟨cur, hown, hup, hsz⟩, hbel⟩ := hrel
    by_cases hlt : k < l.length
    · obtain ⟨b, off, s, rfl, hbl, hbw, hgs, c0, c1⟩ := pr_cell hc hbel hlt
      have hlt' : (k : Int) < (l.length : Int) := by omega
      have HU := Lib.hid (hup.set_ hgs)
      clear hgs hup
      go_wp2_with fail
      refine (to_term _ _ _).mono ?_
      rintro e w3 ⟨rfl, hb3⟩
      have O3 := hown.below hb3
      have L3 := bel_trans hbel hb3
      have q3 := O3.cell
      have f3 := O3.frozen
      have r0 : w3.cell? ⟨w.heap.size, k * 2, none⟩ = some cur[k * 2] := by rw [q3, Array.getElem?_eq_getElem]
      have r1 : w3.cell? ⟨w.heap.size, k * 2 + 1, none⟩ = some cur[k * 2 + 1] := by rw [q3, Array.getElem?_eq_getElem]
      clear q3 hb3 hbel hown c0 c1
      go_wp2_with fail
      go_roundg (l.length - (k + 1))
      case measure => omega
      case rel => exact ⟨k + 1, rfl, by omega, by go_num, ⟨_, (O3.set_ _ _).set_ _ _, HU.out, by simpa using hsz⟩, bel_set (bel_set L3 (by simp) _) (by simp) _⟩
    · have hkl : k = l.length := by omega
      have HE := Lib.hid (show Row2 wr w.heap.size l by
        rw [hkl] at hup
        have := hup.done hsz
        subst this
        exact hown)
      clear hkl
      go_wp2_with fail
      go_ret
      exact ⟨rfl, HE.out, hbel⟩

theorem sz_terms (A : Option Addr) (n c : Nat) (left : Int) (w : World) (hl : left = 1048576) (hnc : n ≤ c) (hcm : c ≤ maxLen) :
    Calls Try.prog 5 #[.slice A n c, .int .i64 left] w fun e w' => e = .returned (.int .i64 (if 1048576 < n then -1 else 1048576 - n)) ∧ w = w' := by
  subst hl
  unfold maxLen at hcm
  by_cases h : 1048576 < n
  · have HS := Lib.hid (if_pos h : (if 1048576 < n then (-1 : Int) else 1048576 - n) = -1)
    rw [HS.out]
    go_enter Try.func5, Try.ntmps5
    go_wp2
    go_ret
    exact ⟨rfl, rfl⟩
  · have HS := Lib.hid (if_neg h : (if 1048576 < n then (-1 : Int) else 1048576 - n) = 1048576 - n)
    rw [HS.out]
    go_enter Try.func5, Try.ntmps5
    go_wp2
    go_ret
    exact ⟨rfl, rfl⟩

theorem eq_term (x y : Int) (w : World) : Calls Try.prog 16 #[.agg #[.int .i64 x, .int .i64 y], .agg #[.int .i64 x, .int .i64 y]] w fun e w' => e = .returned (.bool true) ∧ Below w.heap.size w w' := by
  go_enter Try.func16, Try.ntmps16
  go_wp2
  all_goals
    try (go_quiet (fail); go_wp2)
    go_ret
    exact ⟨rfl, (by repeat (first | exact Below.refl _ _ | assumption | refine bel_drewN ?_ _ | refine bel_drew ?_ | refine bel_alloc ?_ _ | refine bel_set ?_ (by simp; omega) _ | refine bel_set ?_ (by simp) _ | refine bel_trans ?_ (by assumption)))⟩
set_option maxHeartbeats 2000000 in
theorem eq_terms (v v' : Value) (l : List Pr) (w : World) (hv : PrAt w w.heap.size v l) (hv' : PrAt w w.heap.size v' l) :
    Calls Try.prog 9 #[v, v'] w fun e w' => e = .returned (.bool true) ∧ Below w.heap.size w w' := by
  obtain ⟨A, c, rfl, hlc, hcm, hc⟩ := hv
  obtain ⟨A', c', rfl, hlc', hcm', hc'⟩ := hv'
  unfold maxLen at hcm hcm'
  go_enter Try.func9, Try.ntmps9
  go_wp2_with fail
  go_loopg [5] l.length (fun gk i wr => ∃ k : Nat, gk = l.length - k ∧ k ≤ l.length ∧ i = .int .i64 k ∧ Below w.heap.size w wr)
  case atStart => exact ⟨0, rfl, by omega, rfl, Below.refl _ _⟩
  case round =>
    obtain ⟨k, rfl, hk, rfl, hbel⟩ := hrel
    by_cases hlt : k < l.length
    · obtain ⟨b, off, s, rfl, hbl, hbw, hgs, c0, c1⟩ := pr_cell hc hbel hlt
      obtain ⟨b', off', s', rfl, hbl', hbw', hgs', d0, d1⟩ := pr_cell hc' hbel hlt
      obtain rfl : s = s' := by rw [hgs] at hgs'; injection hgs'
      have hlt' : (k : Int) < (l.length : Int) := by omega
      have LB := hbel
      clear hgs hgs' hc hc' hbel
      go_wp2_with fail
      (refine wp_region_bel (by kernel_rfl) (by kernel_rfl) ?_; (repeat (first | go_big_quiet_skip | (go_big_quiet_want; first | (go_big_quiet_op; go_big_quiet_on) | (unfold Oper.quiet; apply Exists.intro; refine ⟨fun wx hCx => ?_, ?_⟩; (focus (obtain ⟨hcx, hfx⟩ := bcell hCx; go_simp; first | done | exact rfl | exact (eq_term s.1 s.2 _).mono (fun _ _ hz => ⟨hz.1, bel_trans hCx hz.2⟩))); simp only [Act.put, List.setIfInBounds_toArray, List.set_cons_zero, List.set_cons_succ]; go_big_quiet_on)))); refine wpQuiet_nil ?_; intro wq hCq)
      go_wp2_with fail
      go_roundg (l.length - (k + 1))
      case measure => omega
      case rel => exact ⟨k + 1, rfl, by omega, by go_num, (by repeat (first | exact Below.refl _ _ | assumption | refine bel_drewN ?_ _ | refine bel_drew ?_ | refine bel_alloc ?_ _ | refine bel_set ?_ (by simp; omega) _ | refine bel_set ?_ (by simp) _ | refine bel_trans ?_ (by assumption)))⟩
    · go_wp2_with fail
      go_ret
      exact ⟨rfl, hbel⟩

/-- the sum of the weights -/
def sumT : List Pr → Int
  | [] => 0
  | t :: l => tw t.1 t.2 + sumT l
theorem sumT_append (l r : List Pr) : sumT (l ++ r) = sumT l + sumT r := by
  induction l with
  | nil => simp [sumT]
  | cons t l ih => simp only [List.cons_append, sumT, ih]; omega
def okT (t : Pr) : Bool := tvB t.1 t.2
def tswB (l : List Pr) : Int := if l.all okT = true then sumT l else -1
theorem tw_bd (s l : Int) : 0 ≤ tw s l ∧ tw s l ≤ 153 ∧ (tvB s l = true → 1 ≤ tw s l) := by
  unfold tw
  split
  · rename_i h
    have := tvB_true.1 h
    have h1 : 1 * 1 ≤ (s + 1) * (2 * l + 1) := Int.mul_le_mul (by omega) (by omega) (by omega) (by omega)
    have h2 : (s + 1) * (2 * l + 1) ≤ 9 * 17 := Int.mul_le_mul (by omega) (by omega) (by omega) (by omega)
    omega
  · rename_i h; exact ⟨by omega, by omega, fun h' => absurd h' h⟩
theorem sumT_bd (l : List Pr) : 0 ≤ sumT l ∧ sumT l ≤ 153 * l.length := by
  induction l with
  | nil => simp [sumT]
  | cons t l ih => have := tw_bd t.1 t.2; simp only [sumT, List.length_cons]; omega
theorem sumT_ge {l : List Pr} (h : l.all okT = true) : (l.length : Int) ≤ sumT l := by
  induction l with
  | nil => simp [sumT]
  | cons t l ih =>
    simp only [List.all_cons, Bool.and_eq_true] at h
    have := ih h.2
    have := (tw_bd t.1 t.2).2.2 h.1
    simp only [sumT, List.length_cons]; omega
theorem sumT_take {l : List Pr} {k : Nat} {s : Pr} (h : l[k]? = some s) : sumT (l.take (k + 1)) = sumT (l.take k) + tw s.1 s.2 := by
  obtain ⟨hk, he⟩ := List.getElem?_eq_some_iff.1 h
  rw [List.take_succ_eq_append_getElem hk, sumT_append, he]; simp [sumT]
theorem all_take {l : List Pr} {k : Nat} {s : Pr} (h : l[k]? = some s) (ha : (l.take k).all okT = true) : (l.take (k + 1)).all okT = okT s := by
  obtain ⟨hk, he⟩ := List.getElem?_eq_some_iff.1 h
  rw [List.take_succ_eq_append_getElem hk, List.all_append, ha, he]; simp
theorem all_bad {l : List Pr} {k : Nat} {s : Pr} (h : l[k]? = some s) (hs : okT s = false) : tswB l = -1 := by
  obtain ⟨hk, he⟩ := List.getElem?_eq_some_iff.1 h
  rw [tswB, if_neg]
  intro ha
  have := List.all_eq_true.1 ha l[k] (List.getElem_mem _)
  rw [he, hs] at this
  cases this
theorem tsw_end {l : List Pr} (h : l.all okT = true) : tswB l = sumT l := if_pos h

theorem impl_tvz {s l : Int} {b : Bool} (h : tvB s l = b) (w : World) : Calls Try.prog 14 #[.agg #[.int .i64 s, .int .i64 l]] w fun e w' => e = .returned (.bool b) ∧ Below w.heap.size w w' := by
  rw [← h]; exact (impl_tv s l w).mono fun e w' ⟨he, hw⟩ => ⟨he, by rw [← hw]; exact bel_alloc (Below.refl _ _) _⟩
theorem spec_tvz {s l : Int} {b : Bool} (h : tvB s l = b) (w : World) : Calls Try.prog 11 #[.agg #[.int .i64 s, .int .i64 l]] w fun e w' => e = .returned (.bool b) ∧ Below w.heap.size w w' := by
  rw [← h]; exact (spec_tv s l w).mono fun e w' ⟨he, hw⟩ => ⟨he, by rw [← hw]; exact bel_alloc (Below.refl _ _) _⟩

set_option maxHeartbeats 2000000 in
theorem impl_tsw (v : Value) (l : List Pr) (w : World) (hv : PrAt w w.heap.size v l) (hn : l.length ≤ 1048576) :
    Calls Try.prog 8 #[v] w fun e w' => e = .returned (.int .i64 (tswB l)) ∧ Below w.heap.size w w' := by
  obtain ⟨A, c, rfl, hlc, hcm, hc⟩ := hv
  unfold maxLen at hcm
  go_enter Try.func8, Try.ntmps8
  go_wp2_with fail
  go_loopg [3, 8] l.length (fun gk p i wr => ∃ k : Nat, gk = l.length - k ∧ k ≤ l.length ∧ i = .int .i64 k ∧ p = .int .i64 (sumT (l.take k)) ∧ (l.take k).all okT = true ∧ Below w.heap.size w wr)
  case atStart => exact ⟨0, rfl, by omega, rfl, rfl, rfl, Below.refl _ _⟩
  case round =>
    obtain ⟨k, rfl, hk, rfl, rfl, hal, hbel⟩ := hrel
    by_cases hlt : k < l.length
    · obtain ⟨b, off, s, rfl, hbl, hbw, hgs, c0, c1⟩ := pr_cell hc hbel hlt
      have hlt' : (k : Int) < (l.length : Int) := by omega
      have hsb := sumT_bd (l.take k)
      rw [List.length_take] at hsb
      have hss := sumT_take hgs
      obtain ⟨t0, t1, _⟩ := tw_bd s.1 s.2
      have hat := all_take hgs hal
      have hbad := Lib.hid (fun h => @all_bad l k s hgs h)
      obtain ⟨sb0, sb1⟩ := hsb
      have sb2 : sumT (l.take k) ≤ 160432128 := by omega
      clear sb1 hgs hal
      generalize sumT (l.take k) = z at *
      cases hs : okT s
      · have HB := Lib.hid (hbad.out hs)
        have HV := Lib.hid (show tvB s.1 s.2 = false from hs)
        clear hss hat hs
        go_wp2_with fail
        refine (impl_tvz HV.out _).mono ?_
        rintro e w3 ⟨rfl, hb3⟩
        have L3 := bel_trans (bel_alloc hbel (.cells #[.int .i64 s.1, .int .i64 s.2] 34)) hb3
        go_wp2_with fail
        go_ret
        exact ⟨ret_int HB.out.symm, L3⟩
      · have HS := Lib.hid hss
        have HA := Lib.hid (hat.trans hs)
        have HV := Lib.hid (show tvB s.1 s.2 = true from hs)
        clear hss hat hs
        go_wp2_with fail
        refine (impl_tvz HV.out _).mono ?_
        rintro e w3 ⟨rfl, hb3⟩
        have O3 := (Own.new wr 34 #[.int .i64 s.1, .int .i64 s.2]).below hb3
        have q3 := O3.cell
        have l3 := O3.lt
        have L3 := bel_trans (bel_alloc hbel (.cells #[.int .i64 s.1, .int .i64 s.2] 34)) hb3
        clear hb3 hbel c0 c1
        go_wp2_with fail
        refine (impl_tw _ _ _).mono ?_
        rintro e w4 ⟨rfl, hb4⟩
        have L4 := bel_trans L3 hb4
        clear hb4 L3 q3 O3
        go_wp2_with fail
        go_roundg (l.length - (k + 1))
        case measure => omega
        case rel => exact ⟨k + 1, rfl, by omega, by go_num, by rw [HS.out], HA.out, L4⟩
    · have hkl : k = l.length := by omega
      have HE := Lib.hid (show tswB l = sumT (l.take k) by rw [hkl, List.take_length] at hal ⊢; exact tsw_end hal)
      clear hkl hal
      generalize sumT (l.take k) = z at *
      go_wp2_with fail
      go_ret
      exact ⟨ret_int HE.out.symm, hbel⟩

set_option maxHeartbeats 2000000 in
theorem spec_tsw (v : Value) (l : List Pr) (w : World) (hv : PrAt w w.heap.size v l) (hn : l.length ≤ 1048576) :
    Calls Try.prog 6 #[v] w fun e w' => e = .returned (.int .i64 (tswB l)) ∧ Below w.heap.size w w' := by
  obtain ⟨A, c, rfl, hlc, hcm, hc⟩ := hv
  unfold maxLen at hcm
  go_enter Try.func6, Try.ntmps6
  go_wp2_with fail
  go_loopg [3, 4] l.length (fun gk p i wr => ∃ k : Nat, gk = l.length - k ∧ k ≤ l.length ∧ i = .int .i64 k ∧ p = .int .i64 (sumT (l.take k)) ∧ (l.take k).all okT = true ∧ Below w.heap.size w wr)
  case atStart => exact ⟨0, rfl, by omega, rfl, rfl, rfl, Below.refl _ _⟩
  case round =>
    obtain ⟨k, rfl, hk, rfl, rfl, hal, hbel⟩ := hrel
    by_cases hlt : k < l.length
    · obtain ⟨b, off, s, rfl, hbl, hbw, hgs, c0, c1⟩ := pr_cell hc hbel hlt
      have hlt' : (k : Int) < (l.length : Int) := by omega
      have hsb := sumT_bd (l.take k)
      rw [List.length_take] at hsb
      have hss := sumT_take hgs
      obtain ⟨t0, t1, _⟩ := tw_bd s.1 s.2
      have hat := all_take hgs hal
      have hbad := Lib.hid (fun h => @all_bad l k s hgs h)
      obtain ⟨sb0, sb1⟩ := hsb
      have sb2 : sumT (l.take k) ≤ 160432128 := by omega
      clear sb1 hgs hal
      generalize sumT (l.take k) = z at *
      cases hs : okT s
      · have HB := Lib.hid (hbad.out hs)
        have HV := Lib.hid (show tvB s.1 s.2 = false from hs)
        clear hss hat hs
        go_wp2_with fail
        refine (spec_tvz HV.out _).mono ?_
        rintro e w3 ⟨rfl, hb3⟩
        have L3 := bel_trans hbel hb3
        go_wp2_with fail
        go_ret
        exact ⟨ret_int HB.out.symm, L3⟩
      · have HS := Lib.hid hss
        have HA := Lib.hid (hat.trans hs)
        have HV := Lib.hid (show tvB s.1 s.2 = true from hs)
        clear hss hat hs
        go_wp2_with fail
        refine (spec_tvz HV.out _).mono ?_
        rintro e w3 ⟨rfl, hb3⟩
        have L3 := bel_trans hbel hb3
        have c0 := (hb3.cell (p := ⟨b, off + k * 2, none⟩) hbw).trans c0
        have c1 := (hb3.cell (p := ⟨b, off + k * 2 + 1, none⟩) hbw).trans c1
        clear hb3 hbel
        go_wp2_with fail
        refine (spec_tw _ _ _).mono ?_
        rintro e w4 ⟨rfl, hb4⟩
        have L4 := bel_trans L3 hb4
        clear hb4 L3 c0 c1
        go_wp2_with fail
        go_roundg (l.length - (k + 1))
        case measure => omega
        case rel => exact ⟨k + 1, rfl, by omega, by go_num, by rw [HS.out], HA.out, L4⟩
    · have hkl : k = l.length := by omega
      have HE := Lib.hid (show tswB l = sumT (l.take k) by rw [hkl, List.take_length] at hal ⊢; exact tsw_end hal)
      clear hkl hal
      generalize sumT (l.take k) = z at *
      go_wp2_with fail
      go_ret
      exact ⟨ret_int HE.out.symm, hbel⟩

end Go.Proofs.Ytjfeknfdpdfdeaa
