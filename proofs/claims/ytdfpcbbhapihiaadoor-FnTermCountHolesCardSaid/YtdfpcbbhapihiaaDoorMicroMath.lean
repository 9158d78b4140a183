/-
  The plain law of microstates: no program in sight.
-/
import Derived.Test.YtdfpcbbhapihiaaDoorRows
namespace Go.Proofs.YtdfpcbbhapihiaaDoor.micro

/-- number of electrons, orbital sum, spin sum -/
abbrev Tri := Int × Int × Int

/-- the four states of one orbital projection -/
def four (m : Int) (t : Tri) : List Tri := [t, (t.1 + 1, t.2.1 + m, t.2.2 - 1), (t.1 + 1, t.2.1 + m, t.2.2 + 1), (t.1 + 2, t.2.1 + 2 * m, t.2.2)]
/-- all microstates over k orbital projections from m on -/
def states : Nat → Int → List Tri
  | 0, _ => [(0, 0, 0)]
  | k + 1, m => (states k (m + 1)).flatMap (four m)

/-- what the reference's recursion computes; k projections are left -/
def ways : Nat → Int → Int → Int → Int → Int
  | 0, _, n, o, s => if n = 0 ∧ o = 0 ∧ s = 0 then 1 else 0
  | k + 1, m, n, o, s =>
    if n < 0 ∨ 2 * ((k : Int) + 1) < n then 0
    else ways k (m + 1) n o s + ways k (m + 1) (n - 1) (o - m) (s - 1) + ways k (m + 1) (n - 1) (o - m) (s + 1) + ways k (m + 1) (n - 2) (o - 2 * m) s

theorem states_bd (k : Nat) : ∀ (m : Int) (t : Tri), t ∈ states k m → 0 ≤ t.1 ∧ t.1 ≤ 2 * k := by
  induction k with
  | zero => intro m t h; simp [states] at h; subst h; simp
  | succ k ih =>
    intro m t h
    simp only [states, List.mem_flatMap] at h
    obtain ⟨u, hu, ht⟩ := h
    have hb := ih _ _ hu
    simp only [four, List.mem_cons, List.not_mem_nil, or_false] at ht
    rcases ht with rfl | rfl | rfl | rfl <;> first | omega | (simp only; omega)

theorem count_four (m n o s : Int) (u : Tri) : (four m u).countP (fun t => t = (n, o, s)) =
    (if u = (n, o, s) then 1 else 0) + (if u = (n - 1, o - m, s + 1) then 1 else 0) + (if u = (n - 1, o - m, s - 1) then 1 else 0) + (if u = (n - 2, o - 2 * m, s) then 1 else 0) := by
  obtain ⟨a, b, c⟩ := u
  simp only [four, List.countP_cons, List.countP_nil, Prod.mk.injEq, decide_eq_true_eq]
  have e1 : (a + 1 = n ∧ b + m = o ∧ c - 1 = s) ↔ (a = n - 1 ∧ b = o - m ∧ c = s + 1) := by omega
  have e2 : (a + 1 = n ∧ b + m = o ∧ c + 1 = s) ↔ (a = n - 1 ∧ b = o - m ∧ c = s - 1) := by omega
  have e3 : (a + 2 = n ∧ b + 2 * m = o ∧ c = s) ↔ (a = n - 2 ∧ b = o - 2 * m ∧ c = s) := by omega
  simp only [e1, e2, e3]
  omega

theorem count_flat (m n o s : Int) (l : List Tri) : (l.flatMap (four m)).countP (fun t => t = (n, o, s)) =
    l.countP (fun t => t = (n, o, s)) + l.countP (fun t => t = (n - 1, o - m, s + 1)) + l.countP (fun t => t = (n - 1, o - m, s - 1)) + l.countP (fun t => t = (n - 2, o - 2 * m, s)) := by
  induction l with
  | nil => simp
  | cons u l ih =>
    simp only [List.flatMap_cons, List.countP_append, ih, count_four, List.countP_cons, decide_eq_true_eq]
    omega

theorem ways_count (k : Nat) : ∀ m n o s : Int, ways k m n o s = ((states k m).countP (fun t => t = (n, o, s)) : Int) := by
  induction k with
  | zero =>
    intro m n o s
    simp only [ways, states, List.countP_cons, List.countP_nil, Prod.mk.injEq, decide_eq_true_eq]
    by_cases h : n = 0 ∧ o = 0 ∧ s = 0
    · obtain ⟨rfl, rfl, rfl⟩ := h; simp
    · rw [if_neg h, if_neg (by omega)]; rfl
  | succ k ih =>
    intro m n o s
    simp only [ways]
    split
    · rename_i h
      have hz : (states (k + 1) m).countP (fun t => t = (n, o, s)) = 0 := by
        rw [List.countP_eq_zero]
        intro t ht
        have hb := states_bd _ _ _ ht
        simp only [decide_eq_true_eq]
        rintro rfl
        simp at hb
        omega
      rw [hz]; rfl
    · rw [ih, ih, ih, ih, states, count_flat]
      push_cast
      omega

end Go.Proofs.YtdfpcbbhapihiaaDoor.micro
