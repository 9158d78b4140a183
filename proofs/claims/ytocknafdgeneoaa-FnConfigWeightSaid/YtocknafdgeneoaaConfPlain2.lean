/-
  Plain laws of weights and open shells of configurations. No program in sight.
-/
import Derived.Test.YtocknafdgeneoaaConfPlain
import Derived.Test.YtocknafdgeneoaaConfigWeight
import Derived.Test.YtocknafdgeneoaaConfigOpen
namespace Go.Proofs.Ytocknafdgeneoaa
open Go.ChangeShapes Go.WideShapes Go.ChangeAt Go.RowKit Go.Deep Go.Joins
set_option linter.unusedVariables false

/-- the product of a number over a list -/
def prd (f : Sh → Int) : List Sh → Int
  | [] => 1
  | s :: l => f s * prd f l
theorem prd_append (f : Sh → Int) (l r : List Sh) : prd f (l ++ r) = prd f l * prd f r := by
  induction l with
  | nil => simp [prd]
  | cons s l ih => simp only [List.cons_append, prd, ih, Int.mul_assoc]
theorem prd_pos {l : List Sh} (h : ∀ s ∈ l, okSh s = true) : 1 ≤ prd chS l := by
  induction l with
  | nil => simp [prd]
  | cons s l ih =>
    have h1 := ih fun t ht => h t (by simp [ht])
    have h2 := (chS_bd (h s (by simp))).1
    have : 1 * 1 ≤ chS s * prd chS l := Int.mul_le_mul h2 h1 (by omega) (by omega)
    simp only [prd]; omega
theorem prd_le {l : List Sh} {s : Sh} (h : ∀ s ∈ l, okSh s = true) (hs : okSh s = true) : prd chS l ≤ prd chS l * chS s := by
  have h1 := prd_pos h
  have h2 := (chS_bd hs).1
  have : prd chS l * 1 ≤ prd chS l * chS s := Int.mul_le_mul_of_nonneg_left h2 (by omega)
  omega
theorem wUp_prd {l : List Sh} (hc : cfgB l = true) : ∀ k, k ≤ l.length → wUp l k = if 1000000000 < prd chS (l.take k) then none else some (prd chS (l.take k)) := by
  have hok := (cfg_iff.1 hc).1
  intro k
  induction k with
  | zero => intro _; simp [wUp, prd]
  | succ k ih =>
    intro hk
    have hs : okSh l[k] = true := hok _ (List.getElem_mem _)
    have hle := prd_le (fun s hs => hok s (List.mem_of_mem_take hs)) hs (l := l.take k)
    have e : prd chS (l.take (k + 1)) = prd chS (l.take k) * chS (l.getD k sh0) := by
      rw [List.take_succ_eq_append_getElem (by omega), prd_append, getD_get (by omega)]; simp [prd]
    rw [getD_get (by omega)] at e
    simp only [wUp, ih (by omega)]
    by_cases hb : 1000000000 < prd chS (l.take k)
    · rw [if_pos hb, if_pos (by omega)]
    · rw [if_neg hb]
      simp only [getD_get (show k < l.length by omega), e]
theorem weB_prd {l : List Sh} (hc : cfgB l = true) : weB l = if 1000000000 < prd chS l then -1 else prd chS l := by
  rw [weB, if_pos hc, wUp_prd hc _ (Nat.le_refl _), List.take_length]
  split <;> rfl
theorem weB_small {l : List Sh} (hc : cfgB l = true) (h : 0 ≤ weB l) : weB l = prd chS l ∧ prd chS l ≤ 1000000000 := by
  rw [weB_prd hc] at *
  split at h
  · omega
  · rename_i hb; rw [if_neg hb]; omega
theorem weB_cfg {l : List Sh} (h : 0 ≤ weB l) : cfgB l = true := by
  unfold weB at h
  split at h
  · assumption
  · omega
theorem weB_parts {l : List Sh} (h : 0 ≤ weB l) {k : Nat} (h0 : 0 < k) (hk : k < l.length) :
    weB l = weB (l.take k) * weB (l.drop k) ∧ 1 ≤ weB (l.take k) ∧ weB (l.take k) ≤ 1000000000 ∧ 1 ≤ weB (l.drop k) ∧ weB (l.drop k) ≤ 1000000000 := by
  have hc := weB_cfg h
  have hok := (cfg_iff.1 hc).1
  obtain ⟨he, hle⟩ := weB_small hc h
  have hp1 := prd_pos (fun s hs => hok s (List.mem_of_mem_take hs) : ∀ s ∈ l.take k, okSh s = true)
  have hp2 := prd_pos (fun s hs => hok s (List.mem_of_mem_drop hs) : ∀ s ∈ l.drop k, okSh s = true)
  have hpp : prd chS l = prd chS (l.take k) * prd chS (l.drop k) := by rw [← prd_append, List.take_append_drop]
  have h1 : prd chS (l.take k) * 1 ≤ prd chS (l.take k) * prd chS (l.drop k) := Int.mul_le_mul_of_nonneg_left hp2 (by omega)
  have h2 : 1 * prd chS (l.drop k) ≤ prd chS (l.take k) * prd chS (l.drop k) := Int.mul_le_mul_of_nonneg_right hp1 (by omega)
  rw [he, weB_prd (cfg_take hc h0 hk), weB_prd (cfg_drop hc hk), if_neg (by omega), if_neg (by omega)]
  omega

theorem bin_self : ∀ n, bin n n = 1 := by
  intro n
  induction n with
  | zero => rfl
  | succ n ih => rw [bin_succ _ _ (by omega), bin_big n (n + 1) (by omega), Nat.add_sub_cancel, ih]
theorem binSym : ((List.range 15).all fun n => (List.range (n + 1)).all fun k => bin n (n - k) == bin n k) = true := by decide +kernel
theorem bin_sym {n k : Nat} (hn : n ≤ 14) (hk : k ≤ n) : bin n (n - k) = bin n k := by
  have := binSym
  rw [List.all_eq_true] at this
  have := this n (by simp; omega)
  rw [List.all_eq_true] at this
  simpa using this k (by simp; omega)
def isOpen (s : Sh) : Bool := decide (s.2.2 < cap s.2.1)
theorem openUp_filter (l : List Sh) : ∀ k, k ≤ l.length → openUp l k = (l.take k).filter isOpen := by
  intro k
  induction k with
  | zero => intro _; rfl
  | succ k ih =>
    intro hk
    rw [openUp, ih (by omega), List.take_succ_eq_append_getElem (by omega), List.filter_append, getD_get (by omega)]
    by_cases h : l[k].2.2 < cap l[k].2.1
    · rw [if_pos h]; simp [List.filter_cons, isOpen, h]
    · rw [if_neg h]; simp [List.filter_cons, isOpen, h]
theorem openL_filter {l : List Sh} (h : cfgB l = true) : openL l = l.filter isOpen := by
  rw [openL, if_pos h, openUp_filter _ _ (Nat.le_refl _), List.take_length]
theorem chS_full {s : Sh} (h : okSh s = true) (ho : isOpen s = false) : chS s = 1 := by
  obtain ⟨_, _, h1, h2, h3, h4⟩ := chS_bd h
  simp [isOpen] at ho
  have e : s.2.2.toNat = (cap s.2.1).toNat := by omega
  rw [chS, e, bin_self]; rfl
theorem prd_open {l : List Sh} (h : ∀ s ∈ l, okSh s = true) : prd chS (l.filter isOpen) = prd chS l := by
  induction l with
  | nil => rfl
  | cons s l ih =>
    have ih := ih fun t ht => h t (by simp [ht])
    cases ho : isOpen s
    · rw [List.filter_cons, if_neg (by simp [ho]), ih, prd, chS_full (h s (by simp)) ho]; omega
    · rw [List.filter_cons, if_pos ho, prd, prd, ih]
theorem open_cfg {l : List Sh} (h : cfgB l = true) (h0 : 0 < (openL l).length) : cfgB (openL l) = true := by
  rw [openL_filter h] at *
  exact cfg_sub h List.filter_sublist h0
theorem open_again {l : List Sh} (h : cfgB l = true) (h0 : 0 < (openL l).length) : openL (openL l) = openL l := by
  have hc := open_cfg h h0
  rw [openL_filter hc, openL_filter h, List.filter_filter]
  congr 1; funext s; simp
theorem open_we {l : List Sh} (h : 0 ≤ weB l) : (0 < (openL l).length → weB (openL l) = weB l) ∧ ((openL l).length = 0 → weB l = 1) := by
  have hc := weB_cfg h
  obtain ⟨he, hle⟩ := weB_small hc h
  have hpo := prd_open (cfg_iff.1 hc).1
  rw [← openL_filter hc] at hpo
  constructor
  · intro h0
    rw [weB_prd (open_cfg hc h0), hpo, if_neg (by omega), he]
  · intro h0
    rw [List.eq_nil_of_length_eq_zero h0] at hpo
    rw [he, ← hpo]; rfl

/-- the shell with holes for electrons, where there are some -/
def hole (s : Sh) : Sh := if s.2.2 < cap s.2.1 then (s.1, s.2.1, cap s.2.1 - s.2.2) else s
theorem hole_nums (s : Sh) : (hole s).1 = s.1 ∧ (hole s).2.1 = s.2.1 := by unfold hole; split <;> simp
theorem hole_ok {s : Sh} (h : okSh s = true) : okSh (hole s) = true := by
  have hb := okSh_bd h
  have hc : cap s.2.1 = 4 * s.2.1 + 2 := if_neg (by omega)
  unfold hole
  split
  · exact shB_true.2 (by simp only; omega)
  · exact h
theorem hole_ch {s : Sh} (h : okSh s = true) : chS (hole s) = chS s := by
  obtain ⟨_, _, h1, h2, h3, h4⟩ := chS_bd h
  unfold hole
  split
  · unfold chS
    simp only
    rw [show (cap s.2.1 - s.2.2).toNat = (cap s.2.1).toNat - s.2.2.toNat by omega, bin_sym h3 h4]
  · rfl
theorem hole_cfg {l : List Sh} (h : cfgB l = true) : cfgB (l.map hole) = true := by
  rw [cfg_iff] at *
  obtain ⟨h1, h2, h3⟩ := h
  refine ⟨fun s hs => ?_, ?_, by simpa using h3⟩
  · obtain ⟨t, ht, rfl⟩ := List.mem_map.1 hs
    exact hole_ok (h1 t ht)
  · refine List.pairwise_map.2 (h2.imp ?_)
    intro a b hab
    rw [lessB_iff] at *
    rw [(hole_nums a).1, (hole_nums a).2, (hole_nums b).1, (hole_nums b).2]
    exact hab
theorem hole_prd {l : List Sh} (h : ∀ s ∈ l, okSh s = true) : prd chS (l.map hole) = prd chS l := by
  induction l with
  | nil => rfl
  | cons s l ih => rw [List.map_cons, prd, prd, ih fun t ht => h t (by simp [ht]), hole_ch (h s (by simp))]
theorem hole_we {l : List Sh} (h : cfgB l = true) : weB (l.map hole) = weB l := by
  rw [weB_prd (hole_cfg h), weB_prd h, hole_prd (cfg_iff.1 h).1]
/-- the holes of the first shells -/
def holeUp (l : List Sh) (k : Nat) : List Sh := (l.take k).map hole ++ l.drop k
theorem holeUp_zero (l : List Sh) : holeUp l 0 = l := by simp [holeUp]
theorem holeUp_end (l : List Sh) : holeUp l l.length = l.map hole := by simp [holeUp]
theorem holeUp_length (l : List Sh) (k : Nat) : (holeUp l k).length = l.length := by simp [holeUp]; omega
theorem holeUp_get {l : List Sh} {k : Nat} (h : k < l.length) : (holeUp l k)[k]? = some (l.getD k sh0) := by
  rw [getD_get h, holeUp, List.getElem?_append_right (by simp; omega)]
  simp [List.getElem?_drop, Nat.min_eq_left (Nat.le_of_lt h)]
theorem holeUp_succ {l : List Sh} {k : Nat} (h : k < l.length) : (holeUp l k).set k (hole (l.getD k sh0)) = holeUp l (k + 1) := by
  have e : ((l.take k).map hole).length = k := by rw [List.length_map, List.length_take]; omega
  rw [getD_get h, holeUp, holeUp, List.set_append_right _ _ (by omega), e, Nat.sub_self, List.drop_eq_getElem_cons h, List.set_cons_zero, List.take_succ_eq_append_getElem h, List.map_append]
  simp only [List.map_cons, List.map_nil, List.append_assoc, List.cons_append, List.nil_append]

theorem impl_wez {v : Value} {l : List Sh} {w : World} (hv : ShAt w w.heap.size v l) {z : Int} (hz : weB l = z) : Calls Try.prog 35 #[v] w fun e w' => e = .returned (.int .i64 z) ∧ Below w.heap.size w w' := by
  rw [← hz]; exact impl_we v l w hv

end Go.Proofs.Ytocknafdgeneoaa
