/-
  The number of microstates by the table.
-/
import Derived.Test.YtdfpcbbhapihiaaDoorMicroCount
import Derived.Test.YtdfpcbbhapihiaaDoorMicroTab
namespace Go.Proofs.YtdfpcbbhapihiaaDoor
open Go.ChangeShapes Go.WideShapes Go.ChangeAt Go.RowKit Go.Deep Go.Joins micro
set_option linter.unusedVariables false

theorem MC_at {m : Nat} {n : Int} (hm : m ≤ 2) (h0 : 0 ≤ n) (h1 : n ≤ 4 * m + 2) (o s : Int) : MC m n o s = (TN m n.toNat o s : Int) := by
  have hv : evB (m : Int) n = true := evB_true.2 (by omega)
  rw [MC, if_pos hv, Int.toNat_natCast]
  by_cases h : -6 ≤ o ∧ o ≤ 6 ∧ -6 ≤ s ∧ s ≤ 6
  · have hw := ms_ways hm n o s
    have ht := ways_tab hm (show n.toNat ≤ 4 * m + 2 by omega) h
    rw [show ((n.toNat : Nat) : Int) = n by omega] at ht
    rw [hw, ht]
  · rw [ms_far hm n o s (by omega), TN, if_neg h]; rfl
theorem tab_bd : ([tab0, tab1, tab2].all fun t => t.all fun r => r.all fun q => q.all fun x => decide (x ≤ 1024)) = true := by decide +kernel
theorem getD_bd {p : Nat → Prop} {q : List Nat} (h : ∀ x ∈ q, p x) (h0 : p 0) (i : Nat) : p (q.getD i 0) := by
  by_cases hi : i < q.length
  · rw [List.getD, List.getElem?_eq_getElem hi]; exact h _ (List.getElem_mem _)
  · rw [List.getD, List.getElem?_eq_none (by omega)]; exact h0
theorem TN_bd (m n : Nat) (o s : Int) : TN m n o s ≤ 1024 := by
  unfold TN
  split
  · have hb := tab_bd
    have ht : (tabOf m).all (fun r => r.all fun q => q.all fun x => decide (x ≤ 1024)) = true := by
      simp only [List.all_cons, List.all_nil, Bool.and_true, Bool.and_eq_true] at hb
      unfold tabOf
      split
      · exact hb.1
      · exact hb.2.1
      · exact hb.2.2
    generalize tabOf m = t at *
    unfold at3
    have hr : ∀ q ∈ t.getD n [], ∀ x ∈ q, x ≤ 1024 := by
      intro q hq
      by_cases hi : n < t.length
      · rw [List.getD, List.getElem?_eq_getElem hi] at hq
        have := List.all_eq_true.1 ht _ (List.getElem_mem hi)
        have := List.all_eq_true.1 this q hq
        intro x hx
        simpa using List.all_eq_true.1 this x hx
      · rw [List.getD, List.getElem?_eq_none (by omega)] at hq; simp at hq
    generalize t.getD n [] = r at *
    have hq : ∀ x ∈ r.getD (o + 6).toNat [], x ≤ 1024 := by
      by_cases hi : (o + 6).toNat < r.length
      · rw [List.getD, List.getElem?_eq_getElem hi]; exact hr _ (List.getElem_mem hi)
      · rw [List.getD, List.getElem?_eq_none (by omega)]; simp
    exact getD_bd (p := fun x => x ≤ 1024) hq (by omega) _
  · omega
theorem impl_mcz {l n o s z : Int} (hz : MC l n o s = z) {w : World} (hT : Tab w) :
    Calls Tryd.prog 10 #[.int .i64 l, .int .i64 n, .int .i64 o, .int .i64 s] w fun e w' => e = .returned (.int .i64 z) ∧ Below w.heap.size w w' := by
  rw [← hz]; exact impl_mc l n o s w hT

end Go.Proofs.YtdfpcbbhapihiaaDoor
