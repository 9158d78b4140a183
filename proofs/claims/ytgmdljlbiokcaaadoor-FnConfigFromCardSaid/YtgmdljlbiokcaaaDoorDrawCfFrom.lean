/-
  The draw of a text that is often that of a configuration.
-/
import Derived.Test.YtgmdljlbiokcaaaDoorDrawFrom
import Derived.Test.YtgmdljlbiokcaaaDoorConfText
import Derived.Test.YtgmdljlbiokcaaaDoorDrawConfs
namespace Go.Proofs.YtgmdljlbiokcaaaDoor
open Go.ChangeShapes Go.WideShapes Go.ChangeAt Go.RowKit Go.Deep Go.Joins
set_option linter.unusedVariables false
set_option maxRecDepth 100000

theorem cT_size (l : List Sh) : (cT l).size ≤ 9 * l.length := by
  unfold cT
  split
  · exact ctUp_size l l.length
  · exact Nat.zero_le _
abbrev cfL0 : List ByteArray := [⟨#[]⟩, ⟨#[32]⟩, ⟨#[50, 115, 49, 32, 49, 115, 49]⟩, ⟨#[49, 115, 50, 32, 32, 50, 115, 50]⟩, ⟨#[49, 115, 50, 32, 49, 115, 50]⟩, ⟨#[50, 112, 55]⟩, ⟨#[49, 115, 50, 32]⟩]
abbrev cfL1 : List ByteArray := [⟨#[32]⟩, ⟨#[32, 55, 115, 49]⟩, ⟨#[120]⟩, ⟨#[32, 49, 115, 49]⟩]

set_option maxHeartbeats 4000000 in
theorem draw_cfrom (A : Option Addr) (n c : Nat) (w : World) (h2 : n ≤ c) (hm : c ≤ maxLen) (h5 : Bytes w w.heap.size A n) :
    Calls Tryd.prog 26 #[.slice A n c] w fun e w' => ∃ s : ByteArray, e = .returned (.string s) ∧ s.size ≤ 300 ∧ Below w.heap.size w w' := by
  go_enter Tryd.func26, Tryd.ntmps26
  go_wp2_with fail
  refine (open_any _ _ _ _ h2 hm h5).mono ?_
  rintro e w1 ⟨g, rfl, hr1, hb1⟩
  have hBg := hr1.1
  go_wp2_with fail
  refine (l92_config _ g 0 (by omega) _ hr1).mono ?_
  rintro e w2 ⟨v, l, rfl, hl, ho, hr2, hg2⟩
  have L2 := bel_only hb1 hBg hg2
  have hz := cT_size l
  clear hg2 hb1 h5
  go_wp2_with fail
  refine (spec_ct v l _ ho.at_ (by omega)).mono ?_
  rintro e w3 ⟨rfl, hb3⟩
  have hr3 := hr2.below hb3
  have L3 := bel_trans L2 hb3
  clear hr2 hb3 L2 ho
  generalize cT l = T at *
  go_wp2_with fail
  refine (pick_any _ g _ 8 (by omega) _ hr3).mono ?_
  rintro e w4 ⟨x, rfl, hx0, hx1, hx2, hr4, hg4⟩
  have L4 := bel_only L3 hBg hg4
  clear hg4 L3 hr3
  by_cases h0 : x = 0
  · subst h0
    have h0b : ((0 : Int) == 0) = true := rfl
    go_wp2_with fail
    have O5 := Own.new w4 9 (cfL0.map Value.string).toArray
    have hr5 := hr4.below (bel_alloc (Below.refl _ _) (.cells (cfL0.map Value.string).toArray 9))
    have L5 := bel_alloc L4 (.cells (cfL0.map Value.string).toArray 9)
    have hne : w4.heap.size ≠ g := by have := hr4.lt; omega
    refine (of_any _ g _ (by omega) _ hr5 w4.heap.size 7 cfL0 rfl (by omega) (by omega) O5 hne (by decide)).mono ?_
    rintro e w6 ⟨s, rfl, hs, hr6, hg6⟩
    have L6 := bel_only L5 hBg hg6
    go_wp2_with fail
    go_ret
    exact ⟨s, rfl, by omega, L6⟩
  · have h0b : (x == 0) = false := by simp; omega
    by_cases h1 : x = 1
    · subst h1
      have h1b : ((1 : Int) == 1) = true := rfl
      go_wp2_with fail
      have O5 := Own.new w4 9 (cfL1.map Value.string).toArray
      have hr5 := hr4.below (bel_alloc (Below.refl _ _) (.cells (cfL1.map Value.string).toArray 9))
      have L5 := bel_alloc L4 (.cells (cfL1.map Value.string).toArray 9)
      have hne : w4.heap.size ≠ g := by have := hr4.lt; omega
      refine (of_any _ g _ (by omega) _ hr5 w4.heap.size 4 cfL1 rfl (by omega) (by omega) O5 hne (by decide)).mono ?_
      rintro e w6 ⟨s, rfl, hs, hr6, hg6⟩
      have L6 := bel_only L5 hBg hg6
      have hadd : ∀ W : World, (Op.stringOp .add T s).run Tryd.prog W = .ok (.string (T ++ s)) W := fun W => run_string_add_sum W _ _ (by omega)
      go_wp2_with fail
      go_ret
      exact ⟨_, rfl, by rw [ByteArray.size_append]; omega, L6⟩
    · have h1b : (x == 1) = false := by simp; omega
      go_wp2_with fail
      go_ret
      exact ⟨_, rfl, by omega, L4⟩

end Go.Proofs.YtgmdljlbiokcaaaDoor
