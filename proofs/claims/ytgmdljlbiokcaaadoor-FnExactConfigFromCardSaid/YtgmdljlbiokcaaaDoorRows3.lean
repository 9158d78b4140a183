/-
  Copies of slices of shells, as the exact laws make them; their comparison, marks.
-/
import Derived.Test.YtgmdljlbiokcaaaDoorSlices
import Derived.OwnWalk
namespace Go.Proofs.YtgmdljlbiokcaaaDoor
open Go.ChangeShapes Go.WideShapes Go.ChangeAt Go.RowKit Go.Deep Go.Joins
set_option linter.unusedVariables false
set_option maxRecDepth 100000

/-- block g is a list of shells -/
def Row (w : World) (g : Nat) (l : List Sh) : Prop := Own w g 24 (flat l).toArray
theorem flat_getD (l : List Sh) {i : Nat} {s : Sh} (h : l[i]? = some s) : (flat l).toArray[i * 3]? = some (.int .i64 s.1) ∧ (flat l).toArray[i * 3 + 1]? = some (.int .i64 s.2.1) ∧ (flat l).toArray[i * 3 + 2]? = some (.int .i64 s.2.2) := by
  simpa using flat_get l i s h
theorem Row.at_ {w : World} {g B : Nat} {l : List Sh} (h : Row w g l) (hB : g < B) (hm : l.length ≤ maxLen) : ShAt w B (.slice (some ⟨g, 0, none⟩) l.length l.length) l := by
  refine ⟨_, _, rfl, Nat.le_refl _, hm, fun _ => ⟨g, 0, rfl, hB, fun i s hs => ?_⟩⟩
  obtain ⟨a, b, c⟩ := flat_getD l hs
  simp only [Nat.zero_add]
  exact ⟨(Own.cell h _).trans a, (Own.cell h _).trans b, (Own.cell h _).trans c⟩
theorem Row.below {w w' : World} {g : Nat} {l : List Sh} (h : Row w g l) (hb : Below w.heap.size w w') : Row w' g l := Own.below h hb

/-- an array of cells that holds a list of shells as far as an index -/
def Upto (cur : Array Value) (l : List Sh) (k : Nat) : Prop :=
  l.length * 3 ≤ cur.size ∧ ∀ (i : Nat) (s : Sh), i < k → l[i]? = some s → cur[i * 3]? = some (.int .i64 s.1) ∧ cur[i * 3 + 1]? = some (.int .i64 s.2.1) ∧ cur[i * 3 + 2]? = some (.int .i64 s.2.2)
theorem Upto.set_ {cur : Array Value} {l : List Sh} {k : Nat} {s : Sh} (h : Upto cur l k) (hs : l[k]? = some s) :
    Upto (((cur.setIfInBounds (k * 3) (.int .i64 s.1)).setIfInBounds (k * 3 + 1) (.int .i64 s.2.1)).setIfInBounds (k * 3 + 2) (.int .i64 s.2.2)) l (k + 1) := by
  have hk : k < l.length := (List.getElem?_eq_some_iff.1 hs).1
  refine ⟨by simpa using h.1, fun i t hi ht => ?_⟩
  by_cases e : i = k
  · subst e
    rw [hs] at ht
    injection ht with ht
    subst ht
    have := h.1
    refine ⟨?_, ?_, ?_⟩ <;> simp only [Array.getElem?_setIfInBounds, Array.size_setIfInBounds]
    · rw [if_neg (by omega), if_neg (by omega), if_pos trivial, if_pos (by omega)]
    · rw [if_neg (by omega), if_pos trivial, if_pos (by omega)]
    · rw [if_pos trivial, if_pos (by omega)]
  · obtain ⟨a, b, c⟩ := h.2 i t (by omega) ht
    refine ⟨?_, ?_, ?_⟩ <;> simp only [Array.getElem?_setIfInBounds] <;> rw [if_neg (by omega), if_neg (by omega), if_neg (by omega)] <;> assumption
theorem Upto.done {cur : Array Value} {l : List Sh} (h : Upto cur l l.length) (hz : cur.size = l.length * 3) : cur = (flat l).toArray := by
  apply Array.ext_getElem?
  intro j
  by_cases hj : j < l.length * 3
  · have hi : j / 3 < l.length := by omega
    obtain ⟨a, b, c⟩ := h.2 (j / 3) _ hi (List.getElem?_eq_getElem hi)
    obtain ⟨a', b', c'⟩ := flat_getD l (List.getElem?_eq_getElem hi)
    rcases (by omega : j = j / 3 * 3 ∨ j = j / 3 * 3 + 1 ∨ j = j / 3 * 3 + 2) with e | e | e
    · rw [← e] at a a'; rw [a, a']
    · rw [← e] at b b'; rw [b, b']
    · rw [← e] at c c'; rw [c, c']
  · rw [Array.getElem?_eq_none (by omega), Array.getElem?_eq_none (by simp [flat_length]; omega)]

theorem shInfo : (Tryd.prog.info? 24).map (fun i => (i.zero, i.size, i.bytes)) = some (some (.agg #[.int .i64 0, .int .i64 0, .int .i64 0]), 3, 24) := by kernel_rfl



/-- marks: numbers that count up -/
def markL (n : Nat) : List Sh := (List.range n).map fun (i : Nat) => ((1 + 3 * i : Int), (1 + 3 * i + 1 : Int), (1 + 3 * i + 1 + 1 : Int))
theorem markL_length (n : Nat) : (markL n).length = n := by simp [markL]
theorem markL_get {n k : Nat} (h : k < n) : (markL n)[k]? = some ((1 + 3 * k : Int), (1 + 3 * k + 1 : Int), (1 + 3 * k + 1 + 1 : Int)) := by
  simp [markL, List.getElem?_map, h]
/-- a slice that may be written to, and its block -/
def Free (w : World) (v : Value) (n : Nat) (row : Option Nat) : Prop :=
  (v = .slice none 0 0 ∧ n = 0) ∨ ∃ g cap cur, row = some g ∧ v = .slice (some ⟨g, 0, none⟩) n cap ∧ n ≤ cap ∧ cap ≤ maxLen ∧ Own w g 24 cur ∧ n * 3 ≤ cur.size
theorem Row.free {w : World} {g : Nat} {l : List Sh} (h : Row w g l) (hm : l.length ≤ maxLen) : Free w (.slice (some ⟨g, 0, none⟩) l.length l.length) l.length (some g) :=
  .inr ⟨g, _, _, rfl, rfl, Nat.le_refl _, hm, h, by simp [flat_length]⟩

theorem only_own {a w : World} {g : Nat} (h : a.grownBy w (some g)) (o : Nat) (u : Value) : a.grownBy (w.setCell ⟨g, o, none⟩ u) (some g) :=
  ⟨h.os, h.tape, h.output, by simpa [World.setCell] using h.size, fun i hi hne => (Below.heap_setCell w ⟨g, o, none⟩ u i (fun e => hne (by rw [e]))).trans (h.block i hi hne)⟩
set_option maxHeartbeats 2000000 in
theorem mark_shells (v : Value) (n : Nat) (row : Option Nat) (w : World) (hf : Free w v n row) (hn : n ≤ 1048576) :
    Calls Tryd.prog 20 #[v, .int .i64 1] w fun e w' => e = .returned (.int .i64 (1 + 3 * n)) ∧ w.grownBy w' row ∧ ShAt w' w.heap.size v (markL n) := by
  rcases hf with ⟨rfl, rfl⟩ | ⟨g, cap, cur0, rfl, rfl, hnc, hcm, hown0, hsz0⟩
  · go_enter Tryd.func20, Tryd.ntmps20
    go_wp2_with fail
    go_loopg [1, 5] 0 (fun gk m i wr => gk = 0 ∧ m = .int .i64 1 ∧ i = .int .i64 0 ∧ wr = w)
    case atStart => exact ⟨rfl, rfl, rfl, rfl⟩
    case round =>
      obtain ⟨rfl, rfl, rfl, rfl⟩ := hrel
      go_wp2_with fail
      go_ret
      exact ⟨rfl, World.grownBy.refl _ _, ⟨none, 0, rfl, Nat.le_refl _, by simp [maxLen], fun h => by simp [markL] at h⟩⟩
  · have hcm' := hcm
    unfold maxLen at hcm
    have hgl0 := hown0.lt
    have hml := markL_length n
    go_enter Tryd.func20, Tryd.ntmps20
    go_wp2_with fail
    go_loopg [1, 5] n (fun gk m i wr => ∃ k : Nat, gk = n - k ∧ k ≤ n ∧ i = .int .i64 k ∧ m = .int .i64 (1 + 3 * k) ∧ (∃ cur, Own wr g 24 cur ∧ Upto cur (markL n) k) ∧ w.grownBy wr (some g))
    case atStart => exact ⟨0, rfl, by omega, rfl, rfl, ⟨cur0, hown0, by omega, fun i s hi => by omega⟩, World.grownBy.refl _ _⟩
    case round =>
      clear hown0 hsz0
      obtain ⟨k, rfl, hk, rfl, rfl, ⟨cur, hown, hup⟩, hg⟩ := hrel
      have hsz := hup.1
      by_cases hlt : k < n
      · have HU := Lib.hid (hup.set_ (markL_get hlt))
        have hlt' : (k : Int) < (n : Int) := by omega
        have q3 := hown.cell
        have f3 := hown.frozen
        have r0 : wr.cell? ⟨g, k * 3, none⟩ = some cur[k * 3] := by rw [q3, Array.getElem?_eq_getElem]
        have r1 : wr.cell? ⟨g, k * 3 + 1, none⟩ = some cur[k * 3 + 1] := by rw [q3, Array.getElem?_eq_getElem]
        have r2 : wr.cell? ⟨g, k * 3 + 2, none⟩ = some cur[k * 3 + 2] := by rw [q3, Array.getElem?_eq_getElem]
        clear q3 hup
        go_wp2_with fail
        go_roundg (n - (k + 1))
        case measure => omega
        case rel => exact ⟨k + 1, rfl, by omega, by go_num, by go_num, ⟨_, ((hown.set_ _ _).set_ _ _).set_ _ _, HU.out⟩, only_own (only_own (only_own hg _ _) _ _) _ _⟩
      · have hkl : k = n := by omega
        have HE := Lib.hid (show ShAt wr w.heap.size (.slice (some ⟨g, 0, none⟩) n cap) (markL n) from
          ⟨_, cap, by rw [hml], by rw [hml]; exact hnc, hcm', fun _ => ⟨g, 0, rfl, hgl0, fun i s hs => by
            have hi : i < n := by have := (List.getElem?_eq_some_iff.1 hs).1; omega
            obtain ⟨a, b, c⟩ := hup.2 i s (by omega) hs
            simp only [Nat.zero_add]
            exact ⟨(hown.cell _).trans a, (hown.cell _).trans b, (hown.cell _).trans c⟩⟩⟩)
        have HK := Lib.hid hkl
        clear hkl
        go_wp2_with fail
        go_ret
        exact ⟨ret_int (by have := HK.out; omega), hg, HE.out⟩

set_option maxHeartbeats 2000000 in
theorem held_shells (v : Value) (n : Nat) (w : World) (hv : ShAt w w.heap.size v (markL n)) (hn : n ≤ 1048576) :
    Calls Tryd.prog 21 #[v, .int .i64 1] w fun e w' => e = .returned (.int .i64 (1 + 3 * n)) ∧ w = w' := by
  have hml := markL_length n
  obtain ⟨A, c, rfl, hlc, hcm, hc⟩ := hv
  rw [hml] at hlc hc
  rw [hml]
  unfold maxLen at hcm
  go_enter Tryd.func21, Tryd.ntmps21
  go_wp2_with fail
  go_loopg [1, 5] n (fun gk m i wr => ∃ k : Nat, gk = n - k ∧ k ≤ n ∧ i = .int .i64 k ∧ m = .int .i64 (1 + 3 * k) ∧ wr = w)
  case atStart => exact ⟨0, rfl, by omega, rfl, rfl, rfl⟩
  case round =>
    obtain ⟨k, rfl, hk, rfl, rfl, rfl⟩ := hrel
    by_cases hlt : k < n
    · obtain ⟨b, off, rfl, hbl, hcell⟩ := hc (by omega)
      obtain ⟨c0, c1, c2⟩ := hcell k _ (markL_get hlt)
      have hlt' : (k : Int) < (n : Int) := by omega
      clear hcell hc
      go_wp2_with fail
      go_roundg (n - (k + 1))
      case measure => omega
      case rel => exact ⟨k + 1, rfl, by omega, by go_num, by go_num, rfl⟩
    · have HK := Lib.hid (show k = n by omega)
      go_wp2_with fail
      go_ret
      exact ⟨ret_int (by have := HK.out; omega), rfl⟩

set_option maxHeartbeats 2000000 in
theorem eq_shells (v v' : Value) (l : List Sh) (w : World) (hv : ShAt w w.heap.size v l) (hv' : ShAt w w.heap.size v' l) :
    Calls Tryd.prog 19 #[v, v'] w fun e w' => e = .returned (.bool true) ∧ Below w.heap.size w w' := by
  obtain ⟨A, c, rfl, hlc, hcm, hc⟩ := hv
  obtain ⟨A', c', rfl, hlc', hcm', hc'⟩ := hv'
  unfold maxLen at hcm hcm'
  go_enter Tryd.func19, Tryd.ntmps19
  go_wp2_with fail
  go_loopg [5] l.length (fun gk i wr => ∃ k : Nat, gk = l.length - k ∧ k ≤ l.length ∧ i = .int .i64 k ∧ Below w.heap.size w wr)
  case atStart => exact ⟨0, rfl, by omega, rfl, Below.refl _ _⟩
  case round =>
    obtain ⟨k, rfl, hk, rfl, hbel⟩ := hrel
    by_cases hlt : k < l.length
    · obtain ⟨b, off, rfl, hbl, hcell⟩ := hc (by omega)
      obtain ⟨b', off', rfl, hbl', hcell'⟩ := hc' (by omega)
      obtain ⟨s, hs⟩ : ∃ s, s = l[k] := ⟨_, rfl⟩
      have hgs : l[k]? = some s := by rw [hs, List.getElem?_eq_getElem hlt]
      obtain ⟨c0, c1, c2⟩ := hcell k _ hgs
      obtain ⟨d0, d1, d2⟩ := hcell' k _ hgs
      have hz := hbel.size
      have hbw : b < wr.heap.size := by omega
      have hbw' : b' < wr.heap.size := by omega
      have c0 := (hbel.cell (p := ⟨b, off + k * 3, none⟩) hbl).trans c0
      have c1 := (hbel.cell (p := ⟨b, off + k * 3 + 1, none⟩) hbl).trans c1
      have c2 := (hbel.cell (p := ⟨b, off + k * 3 + 2, none⟩) hbl).trans c2
      have d0 := (hbel.cell (p := ⟨b', off' + k * 3, none⟩) hbl').trans d0
      have d1 := (hbel.cell (p := ⟨b', off' + k * 3 + 1, none⟩) hbl').trans d1
      have d2 := (hbel.cell (p := ⟨b', off' + k * 3 + 2, none⟩) hbl').trans d2
      have hlt' : (k : Int) < (l.length : Int) := by omega
      have LB := hbel
      clear hgs hs hcell hcell' hc hc' hbel
      go_wp2_with fail
      (refine wp_region_bel (by kernel_rfl) (by kernel_rfl) ?_; (repeat (first | go_big_quiet_skip | (go_big_quiet_want; first | (go_big_quiet_op; go_big_quiet_on) | (unfold Oper.quiet; apply Exists.intro; refine ⟨fun wx hCx => ?_, ?_⟩; (focus (obtain ⟨hcx, hfx⟩ := bcell hCx; go_simp; first | done | exact rfl | exact (eq_shell s.1 s.2.1 s.2.2 _).mono (fun _ _ hz => ⟨hz.1, bel_trans hCx hz.2⟩))); simp only [Act.put, List.setIfInBounds_toArray, List.set_cons_zero, List.set_cons_succ]; go_big_quiet_on)))); refine wpQuiet_nil ?_; intro wq hCq)
      go_wp2_with fail
      go_roundg (l.length - (k + 1))
      case measure => omega
      case rel => exact ⟨k + 1, rfl, by omega, by go_num, (by repeat (first | exact Below.refl _ _ | assumption | refine bel_drewN ?_ _ | refine bel_drew ?_ | refine bel_alloc ?_ _ | refine bel_set ?_ (by simp; omega) _ | refine bel_set ?_ (by simp) _ | refine bel_trans ?_ (by assumption)))⟩
    · go_wp2_with fail
      go_ret
      exact ⟨rfl, hbel⟩

end Go.Proofs.YtgmdljlbiokcaaaDoor
