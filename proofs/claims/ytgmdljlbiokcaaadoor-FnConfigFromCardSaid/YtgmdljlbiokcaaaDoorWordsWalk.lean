/-
  The reference's words: what l11Words returns.
-/
import Derived.Test.YtgmdljlbiokcaaaDoorWordsPlain
import Derived.Test.YtgmdljlbiokcaaaDoorConfText
namespace Go.Proofs.YtgmdljlbiokcaaaDoor
open Go.ChangeShapes Go.WideShapes Go.ChangeAt Go.RowKit Go.Deep Go.Joins
set_option linter.unusedVariables false
set_option maxRecDepth 100000

theorem ext_data (s : ByteArray) (i j : Nat) : (s.extract i j).data.toList = (s.data.toList.drop i).take (j - i) := by
  simp [ByteArray.data_extract, Array.toList_extract, List.take_drop]
theorem ext_end (s : ByteArray) (i : Nat) : (s.extract i s.size).data.toList = s.data.toList.drop i := by
  rw [ext_data, List.take_of_length_le]
  rw [List.length_drop]
  exact Nat.le_refl _
theorem at_data (s : ByteArray) (k : Nat) (h : k < s.size) : s.data.toList[k]? = some (s[k]'h) := by
  rw [Array.getElem?_toList]
  exact Array.getElem?_eq_getElem h
theorem data_no {s : ByteArray} {f k : Nat} (hk : k ≤ s.size) (hno : ∀ j, f ≤ j → j < k → ∀ h, (s[j]'h) ≠ 32) : ∀ x ∈ (s.data.toList.drop f).take (k - f), x ≠ 32 := by
  intro x hx
  obtain ⟨j, hj, rfl⟩ := List.getElem_of_mem hx
  rw [List.length_take, List.length_drop] at hj
  have hj2 : f + j < s.size := by have : s.data.toList.length = s.size := rfl; omega
  rw [List.getElem_take, List.getElem_drop]
  have h1 := at_data s (f + j) hj2
  rw [List.getElem?_eq_getElem (by show f + j < s.size; exact hj2)] at h1
  rw [Option.some.inj h1]
  exact hno (f + j) (by omega) (by omega) hj2
theorem words_cut {s : ByteArray} {f k : Nat} (hf : f ≤ k) (hk : k < s.size) (hsp : s[k]'hk = 32) (hno : ∀ j, f ≤ j → j < k → ∀ h, (s[j]'h) ≠ 32) :
    wordsB (s.extract f s.size) = s.extract f k :: wordsB (s.extract (k + 1) s.size) := by
  have hL : s.data.toList.length = s.size := rfl
  have h1 : s.data.toList.drop f = (s.data.toList.drop f).take (k - f) ++ 32 :: s.data.toList.drop (k + 1) := by
    have h2 := (List.take_append_drop (k - f) (s.data.toList.drop f)).symm
    have h3 : (s.data.toList.drop f).drop (k - f) = 32 :: s.data.toList.drop (k + 1) := by
      rw [List.drop_drop, show f + (k - f) = k by omega]
      rw [List.drop_eq_getElem_cons (by rw [hL]; exact hk)]
      have h4 := at_data s k hk
      rw [List.getElem?_eq_getElem (by rw [hL]; exact hk)] at h4
      rw [Option.some.inj h4, hsp]
    rw [h3] at h2
    exact h2
  unfold wordsB
  rw [ext_end, ext_end, h1, wordsL_cut _ _ (data_no (Nat.le_of_lt hk) hno), List.map_cons]
  congr 1
  refine ba_ext ?_
  rw [ext_data]
theorem words_end {s : ByteArray} {f : Nat} (hno : ∀ j, f ≤ j → j < s.size → ∀ h, (s[j]'h) ≠ 32) : wordsB (s.extract f s.size) = [s.extract f s.size] := by
  have h1 := data_no (Nat.le_refl s.size) hno
  have h2 : (s.data.toList.drop f).take (s.size - f) = s.data.toList.drop f := by
    rw [List.take_of_length_le]
    rw [List.length_drop]
    exact Nat.le_refl _
  rw [h2] at h1
  unfold wordsB
  rw [ext_end, wordsL_one _ h1]
  simp only [List.map_cons, List.map_nil]
  congr 1
  refine ba_ext ?_
  rw [ext_end]
theorem words_all (s : ByteArray) : s.extract 0 s.size = s := by
  refine ba_ext ?_
  rw [ext_end]
  rfl
theorem wordsL_size : ∀ (l : List UInt8), ∀ w ∈ wordsL l, w.length ≤ l.length
  | [], w, hw => by
    simp [wordsL] at hw
    subst hw
    exact Nat.le_refl _
  | b :: r, w, hw => by
    have ih := wordsL_size r
    by_cases h : b = 32
    · subst h
      rw [wordsL_sp] at hw
      rcases List.mem_cons.1 hw with rfl | hw
      · exact Nat.zero_le _
      · exact Nat.le_succ_of_le (ih w hw)
    · obtain ⟨v, vs, e⟩ := wordsL_ne r
      rw [wordsL_cons b r h e] at hw
      rcases List.mem_cons.1 hw with rfl | hw
      · exact Nat.succ_le_succ (ih v (by rw [e]; simp))
      · exact Nat.le_succ_of_le (ih w (by rw [e]; simp [hw]))
theorem wordsB_size {s x : ByteArray} (h : x ∈ wordsB s) : x.size ≤ s.size := by
  unfold wordsB at h
  obtain ⟨l, hl, rfl⟩ := List.mem_map.1 h
  exact wordsL_size _ l hl

theorem OwnT.empty (w : World) (B : Nat) (h : B ≤ w.heap.size) : OwnT (w.alloc (.cells #[] 9)) B (.slice (some ⟨w.heap.size, 0, none⟩) 0 0) [] :=
  ⟨by simp, .inr ⟨w.heap.size, 0, #[], rfl, h, heap_alloc_new w _, Nat.le_refl _, by unfold maxLen; omega, rfl, rfl⟩⟩
theorem ByteArray.byte_ne {b : UInt8} (h : b ≠ 32) : ((b.toNat : Int) == 32) = false := by
  rw [beq_eq_false_iff_ne]
  intro e
  have h2 : b.toNat = 32 := by omega
  exact h (UInt8.toNat_inj.1 h2)

set_option maxHeartbeats 4000000 in
theorem spec_words (s : ByteArray) (hs : s.size ≤ 16000000) (w : World) :
    Calls Tryd.prog 40 #[.string s] w fun e w' => ∃ v, e = .returned v ∧ OwnT w' w.heap.size v (wordsB s) ∧ Below w.heap.size w w' := by
  go_enter Tryd.func40, Tryd.ntmps40
  go_wp2_with fail
  go_loopg [3, 4, 5] s.size (fun gk o f i wr => ∃ (k q : Nat) (done : List ByteArray), gk = s.size - k ∧ k ≤ s.size ∧ q ≤ k ∧ i = .int .i64 k ∧ f = .int .i64 q ∧ done.length ≤ k ∧ OwnT wr w.heap.size o done ∧ wordsB s = done ++ wordsB (s.extract q s.size) ∧
      (∀ j, q ≤ j → j < k → ∀ h, (s[j]'h) ≠ 32) ∧ Below w.heap.size w wr)
  case atStart =>
    refine ⟨0, 0, [], by omega, by omega, by omega, rfl, rfl, by simp, OwnT.empty w w.heap.size (Nat.le_refl _), ?_, fun j h1 h2 => by omega, (by repeat (first | exact Below.refl _ _ | assumption | refine bel_drewN ?_ _ | refine bel_drew ?_ | refine bel_alloc ?_ _ | refine bel_set ?_ (by simp; omega) _ | refine bel_set ?_ (by simp) _ | refine bel_trans ?_ (by assumption)))⟩
    rw [words_all, List.nil_append]
  case round =>
    obtain ⟨k, q, done, rfl, hk, hq, rfl, rfl, hd, hown, hw, hno, hbel⟩ := hrel
    have hbw := hbel.size
    by_cases hlt : k < s.size
    · have hlt' : (k : Int) < (s.size : Int) := by omega
      have hk0 : (0 : Int) ≤ (k : Int) := by omega
      by_cases hsp : s[k]'hlt = 32
      · have hcut := words_cut hq hlt hsp hno
        have hw2 : wordsB s = (done ++ [s.extract q k]) ++ wordsB (s.extract (k + 1) s.size) := by rw [hw, hcut, List.append_assoc]; rfl
        have HW := Lib.hid hw2
        have heq : ∀ h, ((s[k]'h).toNat : Int) = 32 := fun h => by rw [hsp]; rfl
        have hq0 : (0 : Int) ≤ (q : Int) := by omega
        have hqk : (q : Int) ≤ (k : Int) := by omega
        have hks : (k : Int) ≤ (s.size : Int) := by omega
        have e1 : IntKind.i64.wrap ((k : Int) + 1) = k + 1 := IntWalk.i64_in _ (by omega)
        clear hw hcut hsp hno hw2
        go_wp2_with (at_builtin; refine app_str w.heap.size rfl 17 22 rfl _ done rfl (hown.alloc _) (by simp; omega) _ (s.extract q k) rfl (own_at_str (by first | rfl | simp)) (by omega) ?_; intro v' w5 hown' hgr _)
        have hb5 := (bel_alloc hbel (.cells #[.string (s.extract q k)] 9)).grown hgr (by simp; omega) (fun k hk => (OwnT.lt hown k hk).1)
        go_roundg (s.size - (k + 1))
        case measure => omega
        case rel => exact ⟨k + 1, k + 1, done ++ [s.extract q k], rfl, by omega, by omega, by go_num, by go_num, by simp; omega, hown', HW.out, fun j h1 h2 => by omega, hb5⟩
      · have heq : ∀ h, (((s[k]'h).toNat : Int) == 32) = false := fun h => ByteArray.byte_ne hsp
        have hno2 : ∀ j, q ≤ j → j < k + 1 → ∀ h, (s[j]'h) ≠ 32 := fun j h1 h2 h => by
          by_cases hj : j = k
          · subst hj; exact hsp
          · exact hno j h1 (by omega) h
        have HN := Lib.hid hno2
        have HW := Lib.hid hw
        have e1 : IntKind.i64.wrap ((k : Int) + 1) = k + 1 := IntWalk.i64_in _ (by omega)
        clear hsp hno hno2 hw
        go_wp2_with fail
        go_roundg (s.size - (k + 1))
        case measure => omega
        case rel => exact ⟨k + 1, q, done, rfl, by omega, by omega, by go_num, rfl, by omega, hown, HW.out, HN.out, hbel⟩
    · obtain rfl : k = s.size := by omega
      rw [words_end hno] at hw
      have HW := Lib.hid hw
      have hlt' : ¬ (s.size : Int) < (s.size : Int) := by omega
      have hq0 : (0 : Int) ≤ (q : Int) := by omega
      have hqk : (q : Int) ≤ (s.size : Int) := by omega
      clear hw hno
      go_wp2_with (at_builtin; refine app_str w.heap.size rfl 26 30 rfl _ done rfl (hown.alloc _) (by simp; omega) _ (s.extract q s.size) rfl (own_at_str (by first | rfl | simp)) (by omega) ?_; intro v' w5 hown' hgr _)
      have hb5 := (bel_alloc hbel (.cells #[.string (s.extract q s.size)] 9)).grown hgr (by simp; omega) (fun k hk => (OwnT.lt hown k hk).1)
      go_ret
      exact ⟨v', rfl, by rw [HW.out]; exact hown', hb5⟩

end Go.Proofs.YtgmdljlbiokcaaaDoor
