/-
  Copies of slices of shells, as the exact laws make them; their comparison, marks.
-/
import Derived.Test.YtgjogbljjpfadaaDoorSlices
import Derived.OwnWalk
namespace Go.Proofs.YtgjogbljjpfadaaDoor
open Go.ChangeShapes Go.WideShapes Go.ChangeAt Go.RowKit Go.Deep Go.Joins
set_option linter.unusedVariables false
set_option maxRecDepth 100000

/-- block g is a list of shells -/
def Row (w : World) (g : Nat) (l : List Sh) : Prop := Own w g 25 (flat l).toArray
theorem flat_getD (l : List Sh) {i : Nat} {s : Sh} (h : l[i]? = some s) : (flat l).toArray[i * 3]? = some (.int .i64 s.1) ∧ (flat l).toArray[i * 3 + 1]? = some (.int .i64 s.2.1) ∧ (flat l).toArray[i * 3 + 2]? = some (.int .i64 s.2.2) := by
  simpa using flat_get l i s h
theorem Row.at_ {w : World} {g B : Nat} {l : List Sh} (h : Row w g l) (hB : g < B) (hm : l.length ≤ maxLen) : ShAt w B (.slice (some ⟨g, 0, none⟩) l.length l.length) l := by
  refine ⟨_, _, rfl, Nat.le_refl _, hm, fun _ => ⟨g, 0, rfl, hB, fun i s hs => ?_⟩⟩
  obtain ⟨a, b, c⟩ := flat_getD l hs
  simp only [Nat.zero_add]
  exact ⟨(Own.cell h _).trans a, (Own.cell h _).trans b, (Own.cell h _).trans c⟩
theorem Row.below {w w' : World} {g : Nat} {l : List Sh} (h : Row w g l) (hb : Below w.heap.size w w') : Row w' g l := Own.below h hb

/-- an array of cells that holds a list of shells as far as an index -/
def Upto (cur : Array Value) (l : List Sh) (k : Nat) : Prop :=
  l.length * 3 ≤ cur.size ∧ ∀ (i : Nat) (s : Sh), i < k → l[i]? = some s → cur[i * 3]? = some (.int .i64 s.1) ∧ cur[i * 3 + 1]? = some (.int .i64 s.2.1) ∧ cur[i * 3 + 2]? = some (.int .i64 s.2.2)
theorem Upto.set_ {cur : Array Value} {l : List Sh} {k : Nat} {s : Sh} (h : Upto cur l k) (hs : l[k]? = some s) :
    Upto (((cur.setIfInBounds (k * 3) (.int .i64 s.1)).setIfInBounds (k * 3 + 1) (.int .i64 s.2.1)).setIfInBounds (k * 3 + 2) (.int .i64 s.2.2)) l (k + 1) := by
  have hk : k < l.length := (List.getElem?_eq_some_iff.1 hs).1
  refine ⟨by simpa using h.1, fun i t hi ht => ?_⟩
  by_cases e : i = k
  · subst e
    rw [hs] at ht
    injection ht with ht
    subst ht
    have := h.1
    refine ⟨?_, ?_, ?_⟩ <;> simp only [Array.getElem?_setIfInBounds, Array.size_setIfInBounds]
    · rw [if_neg (by omega), if_neg (by omega), if_pos trivial, if_pos (by omega)]
    · rw [if_neg (by omega), if_pos trivial, if_pos (by omega)]
    · rw [if_pos trivial, if_pos (by omega)]
  · obtain ⟨a, b, c⟩ := h.2 i t (by omega) ht
    refine ⟨?_, ?_, ?_⟩ <;> simp only [Array.getElem?_setIfInBounds] <;> rw [if_neg (by omega), if_neg (by omega), if_neg (by omega)] <;> assumption
theorem Upto.done {cur : Array Value} {l : List Sh} (h : Upto cur l l.length) (hz : cur.size = l.length * 3) : cur = (flat l).toArray := by
  apply Array.ext_getElem?
  intro j
  by_cases hj : j < l.length * 3
  · have hi : j / 3 < l.length := by omega
    obtain ⟨a, b, c⟩ := h.2 (j / 3) _ hi (List.getElem?_eq_getElem hi)
    obtain ⟨a', b', c'⟩ := flat_getD l (List.getElem?_eq_getElem hi)
    rcases (by omega : j = j / 3 * 3 ∨ j = j / 3 * 3 + 1 ∨ j = j / 3 * 3 + 2) with e | e | e
    · rw [← e] at a a'; rw [a, a']
    · rw [← e] at b b'; rw [b, b']
    · rw [← e] at c c'; rw [c, c']
  · rw [Array.getElem?_eq_none (by omega), Array.getElem?_eq_none (by simp [flat_length]; omega)]

theorem shInfo : (Tryd.prog.info? 25).map (fun i => (i.zero, i.size, i.bytes)) = some (some (.agg #[.int .i64 0, .int .i64 0, .int .i64 0]), 3, 24) := by kernel_rfl

set_option maxHeartbeats 2000000 in
theorem to_shells (v : Value) (l : List Sh) (w : World) (hv : ShAt w w.heap.size v l) (hn : l.length ≤ 1048576) :
    Calls Tryd.prog 11 #[v] w fun e w' => e = .returned (.slice (some ⟨w.heap.size, 0, none⟩) l.length l.length) ∧ Row w' w.heap.size l ∧ Below w.heap.size w w' := by
  obtain ⟨A, c, rfl, hlc, hcm, hc⟩ := hv
  obtain ⟨i0, hi, hz0, hz1, hz2⟩ := info_parts shInfo
  unfold maxLen at hcm
  go_enter Tryd.func11, Tryd.ntmps11
  go_wp2_with (with_reducible refine wpList_make_full _ rfl (.tmp 6) (.tmp 6) 31 rfl w.heap.size 25 i0 _ 3 Tryd.underlying31 hi hz0 hz1 .i64 .i64 l.length l.length l.length rfl rfl rfl rfl (by rw [hz2]; omega) (by simp [maxLen]; omega) (Nat.le_refl _) ?_; intro w1 hown1 hg1)
  have hb1 : Below w.heap.size w w1 := (Below.refl _ _).grown hg1 (Nat.le_refl _) (by simp)
  obtain ⟨cur1, hcur1, hsz1⟩ : ∃ cur, Own w1 w.heap.size 25 cur ∧ cur.size = l.length * 3 := by
    rcases hown1.2 with ⟨h, _⟩ | ⟨g, cap, cur, h, hb, hg, hnc, hcm, hsz, htk⟩
    · cases h
    · injection h with h h2 h3
      injection h with h
      injection h with h
      subst h
      exact ⟨cur, hg, by omega⟩
  clear hown1 hg1
  go_loopg [4] l.length (fun gk i wr => ∃ k : Nat, gk = l.length - k ∧ k ≤ l.length ∧ i = .int .i64 k ∧ (∃ cur, Own wr w.heap.size 25 cur ∧ Upto cur l k ∧ cur.size = l.length * 3) ∧ Below w.heap.size w wr)
  case atStart => exact ⟨0, rfl, by omega, rfl, ⟨cur1, hcur1, ⟨by omega, fun i s hi => by omega⟩, hsz1⟩, hb1⟩
  case round =>
    clear hcur1 hsz1 hb1
    obtain ⟨k, rfl, hk, rfl, ⟨cur, hown, hup, hsz⟩, hbel⟩ := hrel
    by_cases hlt : k < l.length
    · obtain ⟨b, off, rfl, hbl, hcell⟩ := hc (by omega)
      obtain ⟨s, hs⟩ : ∃ s, s = l[k] := ⟨_, rfl⟩
      have hgs : l[k]? = some s := by rw [hs, List.getElem?_eq_getElem hlt]
      obtain ⟨c0, c1, c2⟩ := hcell k _ hgs
      have c0 := (hbel.cell (p := ⟨b, off + k * 3, none⟩) hbl).trans c0
      have c1 := (hbel.cell (p := ⟨b, off + k * 3 + 1, none⟩) hbl).trans c1
      have c2 := (hbel.cell (p := ⟨b, off + k * 3 + 2, none⟩) hbl).trans c2
      have hlt' : (k : Int) < (l.length : Int) := by omega
      have HU := Lib.hid (hup.set_ hgs)
      clear hgs hs hup
      go_wp2_with fail
      refine (to_shell _ _ _ _).mono ?_
      rintro e w3 ⟨rfl, hb3⟩
      have O3 := hown.below hb3
      have L3 := bel_trans hbel hb3
      have q3 := O3.cell
      have f3 := O3.frozen
      have r0 : w3.cell? ⟨w.heap.size, k * 3, none⟩ = some cur[k * 3] := by rw [q3, Array.getElem?_eq_getElem]
      have r1 : w3.cell? ⟨w.heap.size, k * 3 + 1, none⟩ = some cur[k * 3 + 1] := by rw [q3, Array.getElem?_eq_getElem]
      have r2 : w3.cell? ⟨w.heap.size, k * 3 + 2, none⟩ = some cur[k * 3 + 2] := by rw [q3, Array.getElem?_eq_getElem]
      clear q3 hb3 hbel hown c0 c1 c2
      go_wp2_with fail
      go_roundg (l.length - (k + 1))
      case measure => omega
      case rel => exact ⟨k + 1, rfl, by omega, by go_num, ⟨_, ((O3.set_ _ _).set_ _ _).set_ _ _, HU.out, by simpa using hsz⟩, bel_set (bel_set (bel_set L3 (by simp) _) (by simp) _) (by simp) _⟩
    · have hkl : k = l.length := by omega
      have HE := Lib.hid (show Row wr w.heap.size l by
        rw [hkl] at hup
        have := hup.done hsz
        subst this
        exact hown)
      clear hkl
      go_wp2_with fail
      go_ret
      exact ⟨rfl, HE.out, hbel⟩

theorem sz_shells (A : Option Addr) (n c : Nat) (left : Int) (w : World) (hl : left = 1048576) (hnc : n ≤ c) (hcm : c ≤ maxLen) :
    Calls Tryd.prog 9 #[.slice A n c, .int .i64 left] w fun e w' => e = .returned (.int .i64 (if 1048576 < n then -1 else 1048576 - n)) ∧ w = w' := by
  subst hl
  unfold maxLen at hcm
  by_cases hn : 1048576 < n
  · have HR := Lib.hid (if_pos hn : (if 1048576 < n then (-1 : Int) else 1048576 - n) = -1)
    go_enter Tryd.func9, Tryd.ntmps9
    go_wp2_with fail
    go_ret
    exact ⟨rfl, rfl⟩
  · have HR := Lib.hid (if_neg hn : (if 1048576 < n then (-1 : Int) else 1048576 - n) = 1048576 - n)
    go_enter Tryd.func9, Tryd.ntmps9
    go_wp2_with fail
    go_ret
    exact ⟨rfl, rfl⟩

/-- marks: numbers that count up -/
def markL (n : Nat) : List Sh := (List.range n).map fun (i : Nat) => ((1 + 3 * i : Int), (1 + 3 * i + 1 : Int), (1 + 3 * i + 1 + 1 : Int))
theorem markL_length (n : Nat) : (markL n).length = n := by simp [markL]
theorem markL_get {n k : Nat} (h : k < n) : (markL n)[k]? = some ((1 + 3 * k : Int), (1 + 3 * k + 1 : Int), (1 + 3 * k + 1 + 1 : Int)) := by
  simp [markL, List.getElem?_map, h]
/-- a slice that may be written to, and its block -/
def Free (w : World) (v : Value) (n : Nat) (row : Option Nat) : Prop :=
  (v = .slice none 0 0 ∧ n = 0) ∨ ∃ g cap cur, row = some g ∧ v = .slice (some ⟨g, 0, none⟩) n cap ∧ n ≤ cap ∧ cap ≤ maxLen ∧ Own w g 25 cur ∧ n * 3 ≤ cur.size
theorem Row.free {w : World} {g : Nat} {l : List Sh} (h : Row w g l) (hm : l.length ≤ maxLen) : Free w (.slice (some ⟨g, 0, none⟩) l.length l.length) l.length (some g) :=
  .inr ⟨g, _, _, rfl, rfl, Nat.le_refl _, hm, h, by simp [flat_length]⟩

theorem only_own {a w : World} {g : Nat} (h : a.grownBy w (some g)) (o : Nat) (u : Value) : a.grownBy (w.setCell ⟨g, o, none⟩ u) (some g) :=
  ⟨h.os, h.tape, h.output, by simpa [World.setCell] using h.size, fun i hi hne => (Below.heap_setCell w ⟨g, o, none⟩ u i (fun e => hne (by rw [e]))).trans (h.block i hi hne)⟩


set_option maxHeartbeats 2000000 in
theorem eq_shells (v v' : Value) (l : List Sh) (w : World) (hv : ShAt w w.heap.size v l) (hv' : ShAt w w.heap.size v' l) :
    Calls Tryd.prog 13 #[v, v'] w fun e w' => e = .returned (.bool true) ∧ Below w.heap.size w w' := by
  obtain ⟨A, c, rfl, hlc, hcm, hc⟩ := hv
  obtain ⟨A', c', rfl, hlc', hcm', hc'⟩ := hv'
  unfold maxLen at hcm hcm'
  go_enter Tryd.func13, Tryd.ntmps13
  go_wp2_with fail
  go_loopg [5] l.length (fun gk i wr => ∃ k : Nat, gk = l.length - k ∧ k ≤ l.length ∧ i = .int .i64 k ∧ Below w.heap.size w wr)
  case atStart => exact ⟨0, rfl, by omega, rfl, Below.refl _ _⟩
  case round =>
    obtain ⟨k, rfl, hk, rfl, hbel⟩ := hrel
    by_cases hlt : k < l.length
    · obtain ⟨b, off, rfl, hbl, hcell⟩ := hc (by omega)
      obtain ⟨b', off', rfl, hbl', hcell'⟩ := hc' (by omega)
      obtain ⟨s, hs⟩ : ∃ s, s = l[k] := ⟨_, rfl⟩
      have hgs : l[k]? = some s := by rw [hs, List.getElem?_eq_getElem hlt]
      obtain ⟨c0, c1, c2⟩ := hcell k _ hgs
      obtain ⟨d0, d1, d2⟩ := hcell' k _ hgs
      have hz := hbel.size
      have hbw : b < wr.heap.size := by omega
      have hbw' : b' < wr.heap.size := by omega
      have c0 := (hbel.cell (p := ⟨b, off + k * 3, none⟩) hbl).trans c0
      have c1 := (hbel.cell (p := ⟨b, off + k * 3 + 1, none⟩) hbl).trans c1
      have c2 := (hbel.cell (p := ⟨b, off + k * 3 + 2, none⟩) hbl).trans c2
      have d0 := (hbel.cell (p := ⟨b', off' + k * 3, none⟩) hbl').trans d0
      have d1 := (hbel.cell (p := ⟨b', off' + k * 3 + 1, none⟩) hbl').trans d1
      have d2 := (hbel.cell (p := ⟨b', off' + k * 3 + 2, none⟩) hbl').trans d2
      have hlt' : (k : Int) < (l.length : Int) := by omega
      have LB := hbel
      clear hgs hs hcell hcell' hc hc' hbel
      go_wp2_with fail
      (refine wp_region_bel (by kernel_rfl) (by kernel_rfl) ?_; (repeat (first | go_big_quiet_skip | (go_big_quiet_want; first | (go_big_quiet_op; go_big_quiet_on) | (unfold Oper.quiet; apply Exists.intro; refine ⟨fun wx hCx => ?_, ?_⟩; (focus (obtain ⟨hcx, hfx⟩ := bcell hCx; go_simp; first | done | exact rfl | exact (eq_shell s.1 s.2.1 s.2.2 _).mono (fun _ _ hz => ⟨hz.1, bel_trans hCx hz.2⟩))); simp only [Act.put, List.setIfInBounds_toArray, List.set_cons_zero, List.set_cons_succ]; go_big_quiet_on)))); refine wpQuiet_nil ?_; intro wq hCq)
      go_wp2_with fail
      go_roundg (l.length - (k + 1))
      case measure => omega
      case rel => exact ⟨k + 1, rfl, by omega, by go_num, (by repeat (first | exact Below.refl _ _ | assumption | refine bel_drewN ?_ _ | refine bel_drew ?_ | refine bel_alloc ?_ _ | refine bel_set ?_ (by simp; omega) _ | refine bel_set ?_ (by simp) _ | refine bel_trans ?_ (by assumption)))⟩
    · go_wp2_with fail
      go_ret
      exact ⟨rfl, hbel⟩

end Go.Proofs.YtgjogbljjpfadaaDoor
