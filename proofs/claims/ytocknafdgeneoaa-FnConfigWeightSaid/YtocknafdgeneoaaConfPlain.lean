/-
  Plain laws of configurations: order, parts, sums. No program in sight.
-/
import Derived.Test.YtocknafdgeneoaaConfigNums
namespace Go.Proofs.Ytocknafdgeneoaa
open Go.ChangeShapes Go.WideShapes Go.ChangeAt Go.RowKit Go.Deep Go.Joins
set_option linter.unusedVariables false

abbrev Ord (l : List Sh) : Prop := l.Pairwise (fun a b => lessB a b = true)
theorem lessB_iff {s t : Sh} : lessB s t = true ↔ s.1 < t.1 ∨ s.1 = t.1 ∧ s.2.1 < t.2.1 := by simp [lessB]
theorem lessB_trans {a b c : Sh} (h : lessB a b = true) (k : lessB b c = true) : lessB a c = true := by
  rw [lessB_iff] at *; omega
theorem lessB_irrefl (a : Sh) : lessB a a = false := by
  rw [← Bool.not_eq_true, lessB_iff]; omega
theorem okAt_of {l : List Sh} {k : Nat} : ∀ {n : Nat}, (∀ i, i < n → okAt l i = true) → okUp l n = true := by
  intro n
  induction n with
  | zero => intro _; rfl
  | succ n ih => intro h; simp only [okUp, Bool.and_eq_true]; exact ⟨ih fun i hi => h i (by omega), h n (by omega)⟩
theorem getD_get {l : List Sh} {k : Nat} (h : k < l.length) : l.getD k sh0 = l[k] := by simp [List.getD, List.getElem?_eq_getElem h]
theorem cfg_iff {l : List Sh} : cfgB l = true ↔ (∀ s ∈ l, okSh s = true) ∧ Ord l ∧ 0 < l.length := by
  constructor
  · intro h
    have hp := cfg_pos h
    simp only [cfgB, Bool.and_eq_true] at h
    have ha := okUp_at h.1
    refine ⟨fun s hs => ?_, ?_, hp⟩
    · obtain ⟨i, hi, rfl⟩ := List.mem_iff_getElem.1 hs
      have := ha i hi
      simp only [okAt, Bool.and_eq_true] at this
      rw [← getD_get hi]; exact this.1
    · refine List.pairwise_iff_getElem.2 ?_
      intro i j hi hj hij
      induction j with
      | zero => omega
      | succ j ih =>
        have h1 := ha (j + 1) hj
        simp only [okAt, Bool.and_eq_true] at h1
        have h2 : lessB l[j] l[j + 1] = true := by
          have := h1.2
          rw [show (j + 1 == 0) = false from rfl, Bool.false_or, show j + 1 - 1 = j from rfl, getD_get hj, getD_get (by omega)] at this
          exact this
        by_cases e : i = j
        · subst e; exact h2
        · exact lessB_trans (ih (by omega) (by omega)) h2
  · rintro ⟨h1, h2, h3⟩
    simp only [cfgB, Bool.and_eq_true, decide_eq_true_eq]
    refine ⟨okAt_of (k := 0) fun i hi => ?_, h3⟩
    simp only [okAt, Bool.and_eq_true]
    refine ⟨by rw [getD_get hi]; exact h1 _ (List.getElem_mem _), ?_⟩
    cases i with
    | zero => rfl
    | succ i =>
      rw [show (i + 1 == 0) = false from rfl, Bool.false_or, show i + 1 - 1 = i from rfl, getD_get hi, getD_get (by omega)]
      exact (List.pairwise_iff_getElem.1 h2) i (i + 1) _ _ (by omega)
theorem cfg_sub {l r : List Sh} (h : cfgB l = true) (hs : r.Sublist l) (hp : 0 < r.length) : cfgB r = true := by
  rw [cfg_iff] at *
  exact ⟨fun s hm => h.1 s (hs.subset hm), h.2.1.sublist hs, hp⟩
theorem cfg_nil : cfgB [] = false := rfl
theorem cfg_erase {l : List Sh} (h : cfgB l = true) {k : Nat} (hk : k < l.length) : cfgB (l.take k ++ l.drop (k + 1)) = decide (1 < l.length) := by
  have e : (l.take k ++ l.drop (k + 1)).length = l.length - 1 := by rw [List.length_append, List.length_take, List.length_drop]; omega
  by_cases h1 : 1 < l.length
  · rw [decide_eq_true h1]
    refine cfg_sub h ?_ (by omega)
    rw [← List.eraseIdx_eq_take_drop_succ]
    exact List.eraseIdx_sublist _ _
  · rw [decide_eq_false h1, List.eq_nil_of_length_eq_zero (show (l.take k ++ l.drop (k + 1)).length = 0 by omega)]
    rfl
theorem cfg_dup {l : List Sh} {k : Nat} (hk : k < l.length) : cfgB (l.take (k + 1) ++ l.drop k) = false := by
  rw [← Bool.not_eq_true, cfg_iff]
  rintro ⟨_, h, _⟩
  have h := (List.pairwise_append.1 h).2.2 l[k] (by rw [List.take_succ_eq_append_getElem hk]; exact List.mem_append_right _ (List.mem_singleton.2 rfl)) l[k] (by rw [List.drop_eq_getElem_cons hk]; exact List.mem_cons_self)
  rw [lessB_irrefl] at h
  cases h
theorem cfg_take {l : List Sh} (h : cfgB l = true) {k : Nat} (h0 : 0 < k) (hk : k < l.length) : cfgB (l.take k) = true := cfg_sub h (List.take_sublist _ _) (by rw [List.length_take]; omega)
theorem cfg_drop {l : List Sh} (h : cfgB l = true) {k : Nat} (hk : k < l.length) : cfgB (l.drop k) = true := cfg_sub h (List.drop_sublist _ _) (by rw [List.length_drop]; omega)

/-- the sum of a number over a list -/
def tot (f : Sh → Int) : List Sh → Int
  | [] => 0
  | s :: l => f s + tot f l
theorem tot_append (f : Sh → Int) (l r : List Sh) : tot f (l ++ r) = tot f l + tot f r := by
  induction l with
  | nil => simp [tot]
  | cons s l ih => simp only [List.cons_append, tot, ih]; omega
theorem vsum_take (f : Sh → Int) (l : List Sh) : ∀ k, k ≤ l.length → vsum f l k = tot f (l.take k) := by
  intro k
  induction k with
  | zero => intro _; rfl
  | succ k ih =>
    intro hk
    rw [vsum, ih (by omega), List.take_succ_eq_append_getElem (by omega), tot_append, getD_get (by omega)]
    simp [tot]
theorem vsum_tot (f : Sh → Int) (l : List Sh) : vsum f l l.length = tot f l := by rw [vsum_take _ _ _ (Nat.le_refl _), List.take_length]
theorem tot_split (f : Sh → Int) (l : List Sh) (k : Nat) : tot f l = tot f (l.take k) + tot f (l.drop k) := by rw [← tot_append, List.take_append_drop]
theorem tot_erase (f : Sh → Int) (l : List Sh) {k : Nat} (hk : k < l.length) : tot f l = tot f (l.take k ++ l.drop (k + 1)) + f (l.getD k sh0) := by
  rw [tot_split f l k, List.drop_eq_getElem_cons hk, tot_append, getD_get hk, tot]; omega
theorem elB_tot {l : List Sh} (h : cfgB l = true) : elB l = tot cnt l := by rw [elB, if_pos h, vsum_tot]
theorem paB_tot {l : List Sh} (h : cfgB l = true) : paB l = tot par l % 2 := by rw [paB, if_pos h, vsum_tot]
theorem tot_ge {f : Sh → Int} : ∀ {l : List Sh}, (∀ s ∈ l, 1 ≤ f s) → (l.length : Int) ≤ tot f l := by
  intro l
  induction l with
  | nil => intro _; simp [tot]
  | cons s l ih => intro h; have := ih fun t ht => h t (by simp [ht]); have := h s (by simp); simp only [tot, List.length_cons]; omega
theorem el_ge {l : List Sh} (h : cfgB l = true) : (l.length : Int) ≤ elB l := by
  rw [elB_tot h]
  exact tot_ge fun s hs => by have := okSh_bd ((cfg_iff.1 h).1 s hs); unfold cnt; omega

theorem impl_elz {v : Value} {l : List Sh} {w : World} (hv : ShAt w w.heap.size v l) (hn : l.length ≤ 1048576) {z : Int} (hz : elB l = z) : Calls Try.prog 23 #[v] w fun e w' => e = .returned (.int .i64 z) ∧ Below w.heap.size w w' := by
  rw [← hz]; exact impl_el v l w hv hn
theorem impl_paz {v : Value} {l : List Sh} {w : World} (hv : ShAt w w.heap.size v l) (hn : l.length ≤ 1048576) {z : Int} (hz : paB l = z) : Calls Try.prog 21 #[v] w fun e w' => e = .returned (.int .i64 z) ∧ Below w.heap.size w w' := by
  rw [← hz]; exact impl_pa v l w hv hn

end Go.Proofs.Ytocknafdgeneoaa
