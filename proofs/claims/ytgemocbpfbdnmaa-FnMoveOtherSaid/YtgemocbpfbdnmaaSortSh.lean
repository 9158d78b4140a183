/-
  slices.SortFunc on the shells of the call's own: a sorted permutation.
-/
import Derived.Test.YtgemocbpfbdnmaaConfigOpen
import Derived.Shelf.SlSortCmp.WholeK
namespace Go.Proofs.Ytgemocbpfbdnmaa
open Go.ChangeShapes Go.WideShapes Go.ChangeAt Go.RowKit Go.Deep Go.Joins
open Go.Shelf Go.Lib
set_option linter.unusedVariables false

/-- a call that only makes memory and draws -/
theorem fwd_grown {w w' : World} (h : Below w.heap.size w w') (hd : w.drawn ≤ w'.drawn) : ∃ q os', w' = Go.Sort.grow (w.drewN q) os' := by
  refine ⟨w'.drawn - w.drawn, w'.heap.extract w.heap.size w'.heap.size, ?_⟩
  obtain ⟨h1, h2, h3, h4, h5⟩ := h
  cases w with
  | mk hp tp dr os out =>
  cases w' with
  | mk hp' tp' dr' os' out' =>
  simp only [Go.Sort.grow, World.drewN] at *
  subst h1 h2 h3
  congr 1
  · apply Array.ext_getElem?
    intro i
    rw [Array.getElem?_append]
    split
    · rename_i hi
      exact h5 i hi
    · rename_i hi
      rw [Array.getElem?_extract]
      split
      · rw [show hp.size + (i - hp.size) = i by omega]
      · rw [Array.getElem?_eq_none (by omega)]
  · omega

theorem ltS (s t : Sh) : Go.Proofs.ltOf cmpS s t = lessB s t := by
  have := cmpS_neg s t
  unfold Go.Proofs.ltOf
  cases h : lessB s t
  · rw [h] at this
    simp at this ⊢
    exact this
  · rw [h] at this
    simp at this ⊢
    exact this
theorem swoS : Go.Sort.SWO (Go.Proofs.ltOf cmpS) := {
  irrefl := fun x => by rw [ltS]; simp [lessB]
  trans := fun x y z h1 h2 => by rw [ltS] at *; simp [lessB] at *; omega
  ntrans := fun x y z h1 h2 => by rw [ltS] at *; simp [lessB] at *; omega }

theorem cmp_fwd (s t : Sh) (w : World) : Calls Try.prog 40 #[.agg #[.int .i64 s.1, .int .i64 s.2.1, .int .i64 s.2.2], .agg #[.int .i64 t.1, .int .i64 t.2.1, .int .i64 t.2.2]] w fun e w' => e = .returned (.int .i64 (cmpS s t)) ∧ Below w.heap.size w w' ∧ w.drawn ≤ w'.drawn := by
  go_enter Try.func40, Try.ntmps40
  go_wp2_with fail
  have LB : Below w.heap.size w ((w.alloc (.cells #[.int .i64 s.1, .int .i64 s.2.1, .int .i64 s.2.2] 29)).alloc (.cells #[.int .i64 t.1, .int .i64 t.2.1, .int .i64 t.2.2] 29)) := (by repeat (first | exact Below.refl _ _ | assumption | refine bel_drewN ?_ _ | refine bel_drew ?_ | refine bel_alloc ?_ _ | refine bel_set ?_ (by simp; omega) _ | refine bel_set ?_ (by simp) _ | refine bel_trans ?_ (by assumption)))
  have OS := (Own.new w 29 #[.int .i64 s.1, .int .i64 s.2.1, .int .i64 s.2.2]).alloc (.cells #[.int .i64 t.1, .int .i64 t.2.1, .int .i64 t.2.2] 29)
  have OT := Own.new (w.alloc (.cells #[.int .i64 s.1, .int .i64 s.2.1, .int .i64 s.2.2] 29)) 29 #[.int .i64 t.1, .int .i64 t.2.1, .int .i64 t.2.2]
  have LD : w.drawn ≤ ((w.alloc (.cells #[.int .i64 s.1, .int .i64 s.2.1, .int .i64 s.2.2] 29)).alloc (.cells #[.int .i64 t.1, .int .i64 t.2.1, .int .i64 t.2.2] 29)).drawn := Nat.le_refl _
  rw [World.size_alloc] at OT
  generalize (w.alloc (.cells #[.int .i64 s.1, .int .i64 s.2.1, .int .i64 s.2.2] 29)).alloc (.cells #[.int .i64 t.1, .int .i64 t.2.1, .int .i64 t.2.2] 29) = A at *
  have s0 : A.cell? ⟨w.heap.size, 0, none⟩ = some (.int .i64 s.1) := OS.cell 0
  have s1 : A.cell? ⟨w.heap.size, 1, none⟩ = some (.int .i64 s.2.1) := OS.cell 1
  have t0 : A.cell? ⟨w.heap.size + 1, 0, none⟩ = some (.int .i64 t.1) := OT.cell 0
  have t1 : A.cell? ⟨w.heap.size + 1, 1, none⟩ = some (.int .i64 t.2.1) := OT.cell 1
  clear OS OT
  have hbA : w.heap.size ≤ A.heap.size := LB.size
  have hdr : ∀ x : World, w.drawn ≤ x.drawn → w.drawn ≤ x.drew.drawn := fun x h => Nat.le_trans h (Nat.le_succ _)
  go_region_held3 (fun w' => w'.cell? ⟨w.heap.size, 0, none⟩ = some (.int .i64 s.1) ∧ w'.cell? ⟨w.heap.size, 1, none⟩ = some (.int .i64 s.2.1) ∧ w'.cell? ⟨w.heap.size + 1, 0, none⟩ = some (.int .i64 t.1) ∧ w'.cell? ⟨w.heap.size + 1, 1, none⟩ = some (.int .i64 t.2.1) ∧ Below w.heap.size w w' ∧ w.drawn ≤ w'.drawn)
    (first
      | exact ⟨s0, s1, t0, t1, LB.drew, hdr _ LD⟩
      | assumption
      | (refine ⟨?_, ?_, ?_, ?_, ?_, ?_⟩ <;> first | exact Below.drew (Below.alloc LB hbA _) | exact hdr _ LD | (go_keep; done)))
    (first
      | (go_at_call 52; refine (cmp_compare _ _ _).mono ?_; rintro e w' ⟨rfl, rfl⟩)
      | (go_at_call 51; refine (cmp_or (cmpI s.1 t.1) (cmpI s.2.1 t.2.1) A.heap.size 0 2 _ ?_ ?_).mono ?_; (simp); (simp); rintro e w' ⟨rfl, rfl⟩))
  go_wp2_with fail
  go_ret
  refine ⟨rfl, ?_, ?_⟩
  · first | assumption | (go_split_ands; assumption) | exact Below.drew (Below.alloc LB hbA _)
  · first | assumption | (go_split_ands; assumption) | exact hdr _ LD

theorem flat_at (l : List Sh) (t : Nat) (h : t < l.length * 3) : (flat l)[t]? = some ((Go.Sort.flatK shCells 3 l.toArray)[t]!) := by
  rw [Go.Sort.get_flatK _ _ _ _ (by simpa using h)]
  obtain ⟨i, c, hi, hc, rfl⟩ : ∃ i c, i < l.length ∧ c < 3 ∧ t = i * 3 + c := ⟨t / 3, t % 3, by omega, by omega, by omega⟩
  have e1 : (i * 3 + c) / 3 = i := by omega
  have e2 : (i * 3 + c) % 3 = c := by omega
  obtain ⟨f0, f1, f2⟩ := flat_get l i l[i] (List.getElem?_eq_getElem hi)
  rw [e1, e2]
  have e3 : l.toArray[i]! = l[i] := by simp [hi]
  rw [e3]
  obtain rfl | rfl | rfl : c = 0 ∨ c = 1 ∨ c = 2 := by omega
  · simpa [shCells] using f0
  · simpa [shCells] using f1
  · simpa [shCells] using f2

theorem own_holds {w : World} {B : Nat} {v : Value} {l : List Sh} (h : OwnSh w B v l) {g cap : Nat} (hv : v = .slice (some ⟨g, 0, none⟩) l.length cap) : Go.Sort.HoldsK shCells 3 w g 0 l.toArray ∧ g < w.heap.size := by
  rcases h.free with ⟨e, _⟩ | ⟨g', cap', cur, hb, hB, e, hlc, hcm, ho, hsz⟩
  · rw [hv] at e; cases e
  · rw [hv] at e
    injection e with e1 e2 e3
    injection e1 with e1
    injection e1 with e1
    subst e1
    refine ⟨fun j hj => ?_, ho.lt⟩
    rw [Go.Sort.size_flatK] at hj
    have hj : j < l.length * 3 := by simpa using hj
    refine ⟨?_, ho.frozen _⟩
    subst hv
    have := World.ownsRow.cellAt h j hj
    rw [Nat.zero_add]
    exact this.trans (flat_at l j hj)

theorem sort_own {w : World} {B : Nat} {v : Value} {l : List Sh} (h : OwnSh w B v l) {g cap : Nat} (hv : v = .slice (some ⟨g, 0, none⟩) l.length cap) (d : Array Sh) (hs : d.size = l.length) (n : Nat) (os : Array Obj) :
    OwnSh (Go.Proofs.sortWorldK shCells 3 w g 0 n d os) B v d.toList ∧ Below B w (Go.Proofs.sortWorldK shCells 3 w g 0 n d os) := by
  rcases h.2 with ⟨e, _⟩ | ⟨g', cap', cur, e, hB, hg, hnc, hcm, hsz, htk⟩
  · rw [hv] at e; cases e
  have e0 := e
  rw [hv] at e
  injection e with e1 e2 e3
  injection e1 with e1
  injection e1 with e1
  subst e1
  have hlt : g < w.heap.size := (Array.getElem?_eq_some_iff.1 hg).1
  have hheap : (Go.Proofs.sortWorldK shCells 3 w g 0 n d os).heap = w.heap.modify g (Go.Sort.onCells (Go.Sort.putCells id 0 (Go.Sort.flatK shCells 3 d))) ++ os := rfl
  have hle : d.toList.length = d.size := by simp
  refine ⟨⟨by rw [flat_length], .inr ⟨g, cap', Go.Sort.putCells id 0 (Go.Sort.flatK shCells 3 d) cur, by rw [e0, hle, hs], hB, ?_, by omega, hcm, by simp [Go.Sort.putCells, hsz], ?_⟩⟩, ?_⟩
  · rw [hheap, Array.getElem?_append_left (by simpa using hlt), Array.getElem?_modify, if_pos rfl, hg]
    rfl
  · apply List.ext_getElem?
    intro i
    rw [List.getElem?_take, hle]
    split
    · rename_i hi
      rw [flat_at d.toList i (by simpa using hi)]
      have hi2 : i < cur.size := by rw [hsz]; have := Nat.mul_le_mul_right 3 hnc; omega
      simp [Go.Sort.putCells, hi2, hi]
    · rename_i hi
      rw [List.getElem?_eq_none (by rw [flat_length, hle]; omega)]
  · refine ⟨rfl, rfl, rfl, ?_, fun k hk => ?_⟩
    · rw [hheap]; simp
    · rw [hheap, Array.getElem?_append_left (by simp; omega), Array.getElem?_modify, if_neg (by omega)]

end Go.Proofs.Ytgemocbpfbdnmaa
