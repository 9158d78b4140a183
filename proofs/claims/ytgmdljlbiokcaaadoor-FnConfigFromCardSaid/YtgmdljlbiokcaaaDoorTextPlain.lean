/-
  The texts of shells and of configurations: plain laws.
-/
import Derived.Test.YtgmdljlbiokcaaaDoorConfigNums
import Derived.Lib.Join
import Derived.Shelf.Strconv.Itoa3
namespace Go.Proofs.YtgmdljlbiokcaaaDoor
set_option linter.unusedVariables false

/-- a number's text -/
def decS (u : Nat) : ByteArray := ⟨(Lib.decDigits u).toArray⟩
theorem dec1 {u : Nat} (hu : u < 10) : decS u = ⟨#[UInt8.ofNat (48 + u)]⟩ := by unfold decS; rw [Lib.decDigits_one hu]
theorem dec1_size {u : Nat} (hu : u < 10) : (decS u).size = 1 := by rw [dec1 hu]; rfl
theorem dec2 {u : Nat} (h1 : ¬ u < 10) (h2 : u < 100) : decS u = decS (u / 10) ++ ⟨#[UInt8.ofNat (48 + u % 10)]⟩ := by
  have h3 : u / 10 < 10 := by omega
  unfold decS
  rw [Lib.decDigits_two h1 h2, Lib.decDigits_one h3]
  rfl
theorem dec_size {u : Nat} (hu : u < 100) : (decS u).size ≤ 2 := by
  by_cases h : u < 10
  · rw [dec1_size h]; omega
  · rw [dec2 h hu, ByteArray.size_append, dec1_size (show u / 10 < 10 by omega)]
    exact Nat.le_refl _
theorem dec_pos {u : Nat} (hu : u < 100) : 1 ≤ (decS u).size := by
  by_cases h : u < 10
  · rw [dec1_size h]; omega
  · rw [dec2 h hu, ByteArray.size_append, dec1_size (show u / 10 < 10 by omega)]
    omega
/-- the text of a shell -/
def shText (n l c : Int) : ByteArray := if shB n l c = true then decS n.toNat ++ (⟨#[115, 112, 100, 102]⟩ : ByteArray).extract l.toNat (l + 1).toNat ++ decS c.toNat else ByteArray.empty
theorem ext_size (i j : Nat) : ((⟨#[115, 112, 100, 102]⟩ : ByteArray).extract i j).size ≤ 4 := by
  rw [ByteArray.size_extract]
  have : (⟨#[115, 112, 100, 102]⟩ : ByteArray).size = 4 := rfl
  omega
theorem sh_size (n l c : Int) : (shText n l c).size ≤ 8 := by
  unfold shText
  split
  · rename_i h
    have hb := shB_true.1 h
    rw [ByteArray.size_append, ByteArray.size_append]
    have a := dec_size (u := n.toNat) (by omega)
    have b := dec_size (u := c.toNat) (by omega)
    have d := ext_size l.toNat (l + 1).toNat
    omega
  · exact Nat.zero_le _
theorem sh_pos {n l c : Int} (h : shB n l c = true) : 1 ≤ (shText n l c).size := by
  unfold shText
  rw [if_pos h, ByteArray.size_append, ByteArray.size_append]
  have hb := shB_true.1 h
  have a := dec_pos (u := n.toNat) (by omega)
  omega

def txt (s : Sh) : ByteArray := shText s.1 s.2.1 s.2.2
def spc : ByteArray := ⟨#[32]⟩
/-- the text of the first shells -/
def ctUp (l : List Sh) : Nat → ByteArray
  | 0 => ByteArray.empty
  | k + 1 => if 0 < k then ctUp l k ++ spc ++ txt (l.getD k sh0) else ctUp l k ++ txt (l.getD k sh0)
/-- the text of a configuration -/
def cT (l : List Sh) : ByteArray := if cfgB l = true then ctUp l l.length else ByteArray.empty
theorem ctUp_succ (l : List Sh) (k : Nat) : ctUp l (k + 1) = if 0 < k then ctUp l k ++ spc ++ txt (l.getD k sh0) else ctUp l k ++ txt (l.getD k sh0) := rfl
theorem ctUp_size (l : List Sh) (k : Nat) : (ctUp l k).size ≤ 9 * k := by
  induction k with
  | zero => exact Nat.zero_le _
  | succ k ih =>
    have hs := sh_size (l.getD k sh0).1 (l.getD k sh0).2.1 (l.getD k sh0).2.2
    have e : spc.size = 1 := rfl
    unfold ctUp txt
    split
    · rw [ByteArray.size_append, ByteArray.size_append]; omega
    · rw [ByteArray.size_append]; omega

theorem ba_ext {a b : ByteArray} (h : a.data.toList = b.data.toList) : a = b := by
  cases a; cases b; simp at h; simp [h]
theorem ba_app (a b : ByteArray) : (a ++ b).data.toList = a.data.toList ++ b.data.toList := by
  rw [ByteArray.data_append, Array.toList_append]
theorem join_snoc (sep x : List UInt8) : ∀ xs : List (List UInt8), xs ≠ [] → Lib.join (xs ++ [x]) sep = Lib.join xs sep ++ sep ++ x := by
  intro xs h
  cases xs with
  | nil => exact absurd rfl h
  | cons y r =>
    rw [List.cons_append, Lib.join_cons, Lib.join_cons]
    simp [Lib.joinTail]
theorem ctUp_join (l : List Sh) (k : Nat) (hk : k ≤ l.length) : (ctUp l k).data.toList = Lib.join (((l.take k).map txt).map (·.data.toList)) spc.data.toList := by
  induction k with
  | zero => rfl
  | succ k ih =>
    have hlt : k < l.length := by omega
    have hx : l.getD k sh0 = l[k] := by simp [List.getD, List.getElem?_eq_getElem hlt]
    unfold ctUp
    rw [hx, List.take_succ_eq_append_getElem hlt, List.map_append, List.map_append]
    by_cases h0 : 0 < k
    · rw [if_pos h0, ba_app, ba_app, ih (by omega)]
      simp only [List.map_cons, List.map_nil]
      rw [join_snoc]
      have h2 : (l.take k).length ≠ 0 := by rw [List.length_take]; omega
      intro e
      have h1 := congrArg List.length e
      rw [List.length_map, List.length_map] at h1
      exact h2 h1
    · obtain rfl : k = 0 := by omega
      rw [if_neg h0, ba_app]
      simp [ctUp, Lib.join_one]
theorem ctUp_all (l : List Sh) : (⟨(Lib.join ((l.map txt).map (·.data.toList)) spc.data.toList).toArray⟩ : ByteArray) = ctUp l l.length := by
  apply ba_ext
  rw [ctUp_join l l.length (Nat.le_refl _), List.take_length]

/-- a configuration is short -/
theorem cfg_srt {c : List Sh} (h : cfgB c = true) : ∀ j, 0 < j → (hj : j < c.length) → lessB (c[j - 1]'(by omega)) c[j] = true := by
  have hup : okUp c c.length = true := by
    unfold cfgB at h
    rw [Bool.and_eq_true] at h
    exact h.1
  intro j h0 hj
  have := okUp_le c (show j + 1 ≤ c.length by omega) hup
  simp only [okUp, okAt, Bool.and_eq_true, Bool.or_eq_true, beq_iff_eq] at this
  have h2 := this.2.2.resolve_left (by omega)
  have e1 : c.getD (j - 1) sh0 = c[j - 1]'(by omega) := by simp [List.getD, List.getElem?_eq_getElem (show j - 1 < c.length by omega)]
  have e2 : c.getD j sh0 = c[j] := by simp [List.getD, List.getElem?_eq_getElem hj]
  rw [e1, e2] at h2
  exact h2
theorem cfg_short {c : List Sh} (h : cfgB c = true) : c.length ≤ 40 := by
  have hs := cfg_srt h
  have hb : ∀ i, (hi : i < c.length) → 1 ≤ c[i].1 ∧ c[i].1 ≤ 7 ∧ 0 ≤ c[i].2.1 ∧ c[i].2.1 ≤ 3 := fun i hi => by
    have h1 := cfg_sh h hi
    have e2 : c.getD i sh0 = c[i] := by simp [List.getD, List.getElem?_eq_getElem hi]
    rw [e2] at h1
    have := okSh_bd h1
    omega
  have hi : ∀ i, (hi : i < c.length) → (i : Int) ≤ 4 * c[i].1 + c[i].2.1 := by
    intro i
    induction i with
    | zero => intro hi; have := hb 0 hi; omega
    | succ i ih =>
      intro hi
      have h1 := ih (by omega)
      have h2 := hs (i + 1) (by omega) hi
      have h3 := hb i (by omega)
      have h4 := hb (i + 1) hi
      simp only [Nat.add_sub_cancel] at h2
      simp [lessB] at h2
      omega
  by_cases h0 : c.length = 0
  · omega
  · have h1 := hi (c.length - 1) (by omega)
    have h2 := hb (c.length - 1) (by omega)
    omega

/-- the text of the first shells stands ahead -/
theorem ctUp_pre (l : List Sh) (k : Nat) : ∀ j, k ≤ j → ∃ r, ctUp l j = ctUp l k ++ r := by
  intro j
  induction j with
  | zero =>
    intro h
    obtain rfl : k = 0 := by omega
    exact ⟨ByteArray.empty, ba_ext (by rw [ba_app]; simp)⟩
  | succ j ih =>
    intro h
    by_cases e : k = j + 1
    · subst e
      exact ⟨ByteArray.empty, ba_ext (by rw [ba_app]; simp)⟩
    · obtain ⟨r, hr⟩ := ih (by omega)
      rw [ctUp_succ]
      split
      · exact ⟨r ++ spc ++ txt (l.getD j sh0), ba_ext (by rw [hr]; simp only [ba_app, List.append_assoc])⟩
      · exact ⟨r ++ txt (l.getD j sh0), ba_ext (by rw [hr]; simp only [ba_app, List.append_assoc])⟩
theorem ctUp_last (l : List Sh) (k : Nat) : ∃ r, ctUp l (k + 1) = r ++ txt (l.getD k sh0) := by
  unfold ctUp
  split
  · exact ⟨_, rfl⟩
  · exact ⟨_, rfl⟩
theorem ctUp_take (l : List Sh) (k : Nat) : ∀ j, j ≤ k → ctUp (l.take k) j = ctUp l j := by
  intro j
  induction j with
  | zero => intro _; rfl
  | succ j ih =>
    intro h
    have e : (l.take k).getD j sh0 = l.getD j sh0 := by
      simp only [List.getD, List.getElem?_take]
      rw [if_pos (by omega)]
    unfold ctUp
    rw [ih (by omega), e]
theorem ext_pre (a b : ByteArray) : (a ++ b).extract 0 a.size = a := ByteArray.extract_append_eq_left rfl
theorem ext_suf (a b : ByteArray) : (a ++ b).extract a.size (a ++ b).size = b := ByteArray.extract_append_eq_right rfl ByteArray.size_append

end Go.Proofs.YtgmdljlbiokcaaaDoor
