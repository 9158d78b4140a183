/-
  Slices of shells and of terms: what the walks are told of them; the order of filling.
-/
import Derived.Test.YtgmdljlbiokcaaaDoorScalar
namespace Go.Proofs.YtgmdljlbiokcaaaDoor
open Go.ChangeShapes Go.WideShapes Go.ChangeAt Go.RowKit Go.Deep Go.Joins
set_option linter.unusedVariables false

abbrev Sh := Int × Int × Int
def shCells (s : Sh) : List Value := [.int .i64 s.1, .int .i64 s.2.1, .int .i64 s.2.2]
def flat (l : List Sh) : List Value := l.flatMap shCells
theorem flat_nil : flat [] = [] := rfl
theorem flat_append (l r : List Sh) : flat (l ++ r) = flat l ++ flat r := by simp [flat]
theorem flat_one (s : Sh) : flat [s] = shCells s := by simp [flat]
theorem flat_length (l : List Sh) : (flat l).length = l.length * 3 := by
  induction l with
  | nil => rfl
  | cons s l ih => simp only [flat, List.flatMap_cons, List.length_append, List.length_cons] at ih ⊢; rw [ih]; simp [shCells]; omega
theorem flat_get (l : List Sh) : ∀ (i : Nat) (s : Sh), l[i]? = some s → (flat l)[i * 3]? = some (.int .i64 s.1) ∧ (flat l)[i * 3 + 1]? = some (.int .i64 s.2.1) ∧ (flat l)[i * 3 + 2]? = some (.int .i64 s.2.2) := by
  induction l with
  | nil => intro i s h; simp at h
  | cons x l ih =>
    intro i s h
    have e : flat (x :: l) = .int .i64 x.1 :: .int .i64 x.2.1 :: .int .i64 x.2.2 :: flat l := rfl
    rw [e]
    match i, h with
    | 0, h => simp at h; subst h; simp
    | i + 1, h =>
      have := ih i s (by simpa using h)
      rw [show (i + 1) * 3 = i * 3 + 1 + 1 + 1 by omega]
      simpa using this

/-- A slice value that reads as a list of shells; it lies below block B. -/
def ShAt (w : World) (B : Nat) (v : Value) (l : List Sh) : Prop :=
  ∃ A c, v = .slice A l.length c ∧ l.length ≤ c ∧ c ≤ maxLen ∧ (0 < l.length → ∃ b off, A = some ⟨b, off, none⟩ ∧ b < B ∧ ∀ i s, l[i]? = some s →
    w.cell? ⟨b, off + i * 3, none⟩ = some (.int .i64 s.1) ∧ w.cell? ⟨b, off + i * 3 + 1, none⟩ = some (.int .i64 s.2.1) ∧ w.cell? ⟨b, off + i * 3 + 2, none⟩ = some (.int .i64 s.2.2))

theorem ShAt.below {w w' : World} {B : Nat} {v : Value} {l : List Sh} (h : ShAt w B v l) (hb : Below B w w') : ShAt w' B v l := by
  obtain ⟨A, c, hv, h1, h2, h3⟩ := h
  refine ⟨A, c, hv, h1, h2, fun hl => ?_⟩
  obtain ⟨b, off, ha, hlt, hc⟩ := h3 hl
  refine ⟨b, off, ha, hlt, fun i s hs => ?_⟩
  obtain ⟨c0, c1, c2⟩ := hc i s hs
  exact ⟨(hb.cell (p := ⟨b, off + i * 3, none⟩) hlt).trans c0, (hb.cell (p := ⟨b, off + i * 3 + 1, none⟩) hlt).trans c1, (hb.cell (p := ⟨b, off + i * 3 + 2, none⟩) hlt).trans c2⟩
theorem ShAt.more {w : World} {B B' : Nat} {v : Value} {l : List Sh} (h : ShAt w B v l) (hB : B ≤ B') : ShAt w B' v l := by
  obtain ⟨A, c, hv, h1, h2, h3⟩ := h
  refine ⟨A, c, hv, h1, h2, fun hl => ?_⟩
  obtain ⟨b, off, ha, hlt, hc⟩ := h3 hl
  exact ⟨b, off, ha, by omega, hc⟩
theorem ShAt.bel {w w' : World} {v : Value} {l : List Sh} (h : ShAt w w.heap.size v l) (hb : Below w.heap.size w w') : ShAt w' w'.heap.size v l := (h.below hb).more hb.size

theorem ShAt.of_own {w : World} {base : Nat} {v : Value} {l : List Sh} (h : w.ownsRow base 24 3 v l.length (flat l)) : ShAt w w.heap.size v l := by
  rcases h.2 with ⟨rfl, hn⟩ | ⟨g, cap, cur, hv, hb, hg, hnc, hcm, hsz, htk⟩
  · refine ⟨none, 0, ?_, by omega, by simp [maxLen], fun h => by omega⟩
    rw [hn]
  · refine ⟨_, cap, hv, hnc, hcm, fun hl => ⟨g, 0, rfl, (Array.getElem?_eq_some_iff.1 hg).1, fun i s hs => ?_⟩⟩
    subst hv
    have hi : i < l.length := (List.getElem?_eq_some_iff.1 hs).1
    obtain ⟨e0, e1, e2⟩ := flat_get l i s hs
    have c0 := h.cellAt (i * 3) (by omega)
    have c1 := h.cellAt (i * 3 + 1) (by omega)
    have c2 := h.cellAt (i * 3 + 2) (by omega)
    simp only [Nat.zero_add]
    exact ⟨c0.trans e0, c1.trans e1, c2.trans e2⟩

/-- the order of filling, as the reference has it -/
def orderCode : List Int := [10, 20, 21, 30, 31, 40, 32, 41, 50, 42, 51, 60, 43, 52, 61, 70, 53, 62, 71]
def shOf (x : Int) : Sh := (x / 10, x % 10, cap (x % 10))
def order : List Sh := orderCode.map shOf
theorem order_length : order.length = 19 := rfl


theorem orderCode_bd : ∀ x ∈ orderCode, 10 ≤ x ∧ x ≤ 71 := by decide +kernel
/-- the shell with an index, and whether there is one -/
def shAt (k : Int) : Sh := order.getD k.toNat (0, 0, 0)
/-- the same, or nothing -/
def atSh (k : Int) : Sh := if inB k 0 18 = true then shAt k else (0, 0, 0)
/-- what a call that looks for a shell by its index leaves -/
def AtEnd (k : Int) (w : World) (e : Ending) (w' : World) : Prop :=
  e = .returned (.tuple #[.agg #[.int .i64 (atSh k).1, .int .i64 (atSh k).2.1, .int .i64 (atSh k).2.2], .bool (inB k 0 18)]) ∧ Below w.heap.size w w'
theorem at_end_no {k : Int} (h : inB k 0 18 = false) {w w' : World} (hb : Below w.heap.size w w') : AtEnd k w (.returned (.tuple #[.agg #[.int .i64 0, .int .i64 0, .int .i64 0], .bool false])) w' := by
  refine ⟨?_, hb⟩
  simp [atSh, h]
theorem at_end_yes {k : Int} (h : inB k 0 18 = true) {s : Sh} (hs : shAt k = s) {w w' : World} (hb : Below w.heap.size w w') : AtEnd k w (.returned (.tuple #[.agg #[.int .i64 s.1, .int .i64 s.2.1, .int .i64 s.2.2], .bool true])) w' := by
  refine ⟨?_, hb⟩
  simp [atSh, h, hs]




theorem eq_shell (x y z : Int) (w : World) : Calls Tryd.prog 14 #[.agg #[.int .i64 x, .int .i64 y, .int .i64 z], .agg #[.int .i64 x, .int .i64 y, .int .i64 z]] w fun e w' => e = .returned (.bool true) ∧ Below w.heap.size w w' := by
  go_enter Tryd.func14, Tryd.ntmps14
  go_wp2_with fail
  go_ret
  exact ⟨rfl, (by repeat (first | exact Below.refl _ _ | assumption | refine bel_drewN ?_ _ | refine bel_drew ?_ | refine bel_alloc ?_ _ | refine bel_set ?_ (by simp; omega) _ | refine bel_set ?_ (by simp) _ | refine bel_trans ?_ (by assumption)))⟩

/-- each shell in the order is a full one, and the next one stands behind it -/
def stepOk (k : Int) : Bool :=
  let s := atSh k; let t := atSh (k + 1)
  shB s.1 s.2.1 s.2.2 && s.2.2 == cap s.2.1 && (k == 18 || (decide (s.1 + s.2.1 < t.1 + t.2.1) || (t.1 + t.2.1 == s.1 + s.2.1 && decide (s.1 < t.1))))
theorem stepOk_all : ((List.range 19).all fun k => stepOk k) = true := by decide +kernel
theorem stepOk_of {k : Int} (h0 : 0 ≤ k) (h1 : k ≤ 18) : stepOk k = true := by
  obtain ⟨j, rfl⟩ := Int.eq_ofNat_of_zero_le h0
  exact List.all_eq_true.1 stepOk_all j (by simp; omega)

theorem stepOk_parts {k : Int} (h : stepOk k = true) (hk : k ≤ 18) : shB (atSh k).1 (atSh k).2.1 (atSh k).2.2 = true ∧ (atSh k).2.2 = cap (atSh k).2.1 ∧
    (k < 18 → (atSh k).1 + (atSh k).2.1 < (atSh (k + 1)).1 + (atSh (k + 1)).2.1 ∨ (atSh (k + 1)).1 + (atSh (k + 1)).2.1 = (atSh k).1 + (atSh k).2.1 ∧ (atSh k).1 < (atSh (k + 1)).1) := by
  unfold stepOk at h
  simp only [Bool.and_eq_true, Bool.or_eq_true, beq_iff_eq, decide_eq_true_eq] at h
  exact ⟨h.1.1, h.1.2, fun hk => h.2.resolve_left (by omega)⟩
theorem shB_bd {n l c : Int} (h : shB n l c = true) : 1 ≤ n ∧ n ≤ 7 ∧ 0 ≤ l ∧ l ≤ 3 := by
  have := shB_true.1 h; omega

/-- the electrons of the first shells of the order -/
def psum (j : Nat) : Int := ((List.range j).map fun (i : Nat) => (atSh i).2.2).sum
theorem psum_succ (j : Nat) : psum (j + 1) = psum j + (atSh j).2.2 := by simp [psum, List.range_succ]
theorem psum_end : psum 19 = 118 := by decide +kernel
theorem psum_all : ((List.range 19).all fun j => decide (0 ≤ psum j ∧ psum j ≤ 118)) = true := by decide +kernel
theorem psum_bd {j : Nat} (h : j < 19) : 0 ≤ psum j ∧ psum j ≤ 118 := by
  have := List.all_eq_true.1 psum_all j (by simp; omega)
  simpa using this
theorem apart_all : ((List.range 19).all fun i => (List.range 19).all fun k => i == k || !((atSh i).1 == (atSh k).1 && (atSh i).2.1 == (atSh k).2.1)) = true := by decide +kernel
theorem apart_of {i k : Nat} (hi : i < 19) (hk : k < 19) (hne : i ≠ k) : ((atSh i).1 == (atSh k).1) = true → ((atSh i).2.1 == (atSh k).2.1) = false := by
  have h := List.all_eq_true.1 (List.all_eq_true.1 apart_all i (by simp; omega)) k (by simp; omega)
  intro h1
  simpa [hne, h1] using h

end Go.Proofs.YtgmdljlbiokcaaaDoor
