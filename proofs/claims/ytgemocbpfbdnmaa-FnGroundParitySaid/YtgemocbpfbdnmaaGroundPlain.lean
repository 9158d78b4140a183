/-
  The ground configurations: plain laws, decided for each number of electrons.
-/
import Derived.Test.YtgemocbpfbdnmaaSpecGround
import Derived.Test.YtgemocbpfbdnmaaGdPlain
namespace Go.Proofs.Ytgemocbpfbdnmaa
set_option linter.unusedVariables false
set_option maxRecDepth 100000

/-- the program's entries after some rounds, and the electrons that are left -/
def giUp (z : Int) : Nat → List (Pr × Int) × Int
  | 0 => ([], z)
  | k + 1 => if 0 < mn (giUp z k).2 (order.getD k sh0).2.2 then (putF (giUp z k).1 ((order.getD k sh0).1, (order.getD k sh0).2.1) (mn (giUp z k).2 (order.getD k sh0).2.2), (giUp z k).2 - mn (giUp z k).2 (order.getD k sh0).2.2) else giUp z k
theorem giUp_succ (z : Int) (k : Nat) : giUp z (k + 1) = if 0 < mn (giUp z k).2 (order.getD k sh0).2.2 then (putF (giUp z k).1 ((order.getD k sh0).1, (order.getD k sh0).2.1) (mn (giUp z k).2 (order.getD k sh0).2.2), (giUp z k).2 - mn (giUp z k).2 (order.getD k sh0).2.2) else giUp z k := rfl
theorem putF_len (F : List (Pr × Int)) (q : Pr) (v : Int) : (putF F q v).length ≤ F.length + 1 := by
  induction F with
  | nil => simp [putF]
  | cons p F ih =>
    simp only [putF]
    split
    · simp
    · simp; omega
theorem giUp_bd {z : Int} (h0 : 1 ≤ z) (h1 : z ≤ 118) (k : Nat) (hk : k ≤ 19) : 0 ≤ (giUp z k).2 ∧ (giUp z k).2 ≤ 118 ∧ (giUp z k).1.length ≤ k := by
  induction k with
  | zero => simp [giUp]; omega
  | succ k ih =>
    obtain ⟨a, b, c⟩ := ih (by omega)
    have hb := order_bd k (by omega)
    rw [giUp_succ]
    generalize order.getD k sh0 = s at *
    split
    · rename_i h
      have hm : 0 ≤ (giUp z k).2 - mn (giUp z k).2 s.2.2 ∧ (giUp z k).2 - mn (giUp z k).2 s.2.2 ≤ 118 := by
        unfold mn
        split <;> omega
      refine ⟨hm.1, hm.2, ?_⟩
      have := putF_len (giUp z k).1 (s.1, s.2.1) (mn (giUp z k).2 s.2.2)
      dsimp only
      omega
    · exact ⟨a, b, by omega⟩

theorem forall_z {P : Int → Prop} (h : ∀ n : Nat, n < 118 → P ((n : Int) + 1)) {z : Int} (h0 : 1 ≤ z) (h1 : z ≤ 118) : P z := by
  have := h (z - 1).toNat (by omega)
  rwa [show (((z - 1).toNat : Nat) : Int) + 1 = z by omega] at this
theorem GL_perm_b : ∀ n : Nat, n < 118 → (GL ((n : Int) + 1)).isPerm (nz (giUp ((n : Int) + 1) 19).1) = true := by decide +kernel
theorem GL_perm {z : Int} (h0 : 1 ≤ z) (h1 : z ≤ 118) : (GL z).Perm (nz (giUp z 19).1) := List.isPerm_iff.1 (forall_z (P := fun z => (GL z).isPerm (nz (giUp z 19).1) = true) GL_perm_b h0 h1)
def sortedB : List Sh → Bool
  | s :: t :: r => lessB s t && sortedB (t :: r)
  | _ => true
theorem sorted_b : ∀ {l : List Sh}, sortedB l = true → SortedL l := by
  intro l
  induction l with
  | nil => intro _; exact List.Pairwise.nil
  | cons s l ih =>
    intro h
    cases l with
    | nil => exact List.pairwise_singleton _ _
    | cons t r =>
      simp only [sortedB, Bool.and_eq_true] at h
      have ht := ih h.2
      refine List.pairwise_cons.2 ⟨fun u hu => ?_, ht⟩
      rcases List.mem_cons.1 hu with rfl | hu
      · exact h.1
      · exact less_trans h.1 ((List.pairwise_cons.1 ht).1 u hu)
theorem GL_sorted_b : ∀ n : Nat, n < 118 → sortedB (GL ((n : Int) + 1)) = true := by decide +kernel
theorem GL_sorted {z : Int} (h0 : 1 ≤ z) (h1 : z ≤ 118) : SortedL (GL z) := sorted_b (forall_z (P := fun z => sortedB (GL z) = true) GL_sorted_b h0 h1)
theorem GL_some_b : ∀ n : Nat, n < 118 → (GL ((n : Int) + 1)).length ≠ 0 := by decide +kernel
theorem GL_some {z : Int} (h0 : 1 ≤ z) (h1 : z ≤ 118) : (GL z).length ≠ 0 := forall_z (P := fun z => (GL z).length ≠ 0) GL_some_b h0 h1
theorem GL_len (z : Int) : (GL z).length ≤ 19 := by
  unfold GL
  split
  · rename_i h
    have := inB_true.1 h
    exact (gsUp_bd this.1 this.2 19 (by omega)).2.2
  · simp

/-! ### what the laws say of them -/
theorem GL_cfg_b : ∀ n : Nat, n < 118 → cfgB (GL ((n : Int) + 1)) = true ∧ (openL (GL ((n : Int) + 1))).length ≤ 1 := by decide +kernel
theorem GL_cfg {z : Int} (h0 : 1 ≤ z) (h1 : z ≤ 118) : cfgB (GL z) = true ∧ (openL (GL z)).length ≤ 1 := forall_z (P := fun z => cfgB (GL z) = true ∧ (openL (GL z)).length ≤ 1) GL_cfg_b h0 h1

end Go.Proofs.Ytgemocbpfbdnmaa
