/-
  The draws of texts.
-/
import Derived.Test.YtgmdljlbiokcaaaDoorShellText
import Derived.Test.YtgmdljlbiokcaaaDoorDrawShell
namespace Go.Proofs.YtgmdljlbiokcaaaDoor
open Go.ChangeShapes Go.WideShapes Go.ChangeAt Go.RowKit Go.Deep Go.Joins
set_option linter.unusedVariables false
set_option maxRecDepth 100000

/-- what a draw out of a list of texts leaves -/
def OfEnd (w : World) (B g K : Nat) (e : Ending) (w' : World) : Prop := ∃ s : ByteArray, e = .returned (.string s) ∧ s.size ≤ 16 ∧ Rdr w' B g (K + 1) ∧ w.grownBy w' (some g)
set_option maxHeartbeats 2000000 in
theorem of_any (B g K : Nat) (hK : K ≤ 1000000) (w : World) (hr : Rdr w B g K) (b L : Nat) (xs : List ByteArray) (hL : xs.length = L) (h1 : 1 ≤ L) (hLm : L ≤ 100) (ho : Own w b 9 (xs.map Value.string).toArray) (hne : b ≠ g) (hsz : ∀ x ∈ xs, x.size ≤ 16) :
    Calls Tryd.prog 38 #[.pointer (some ⟨g, 0, none⟩), .slice (some ⟨b, 0, none⟩) L L] w (OfEnd w B g K) := by
  go_enter Tryd.func38, Tryd.ntmps38
  go_wp2_with fail
  refine (pick_any B g K L hK w hr).mono ?_
  rintro e w1 ⟨x, rfl, hx0, hx1, hx2, hr1, hg1⟩
  have hx3 := hx1 (by omega)
  obtain ⟨X, rfl⟩ := Int.eq_ofNat_of_zero_le hx0
  have hX : X < L := by omega
  obtain ⟨s, hs⟩ : ∃ s, xs[X]? = some s := ⟨xs[X]'(by omega), List.getElem?_eq_getElem (by omega)⟩
  have hss : s.size ≤ 16 := hsz s (List.mem_of_getElem? hs)
  have O1 := ho.pick hg1 hne
  have hc : w1.cell? ⟨b, X, none⟩ = some (.string s) := by rw [O1.cell]; simp [hs]
  clear hx1 hx2 hs hsz
  go_wp2_with fail
  go_ret
  exact ⟨s, rfl, hss, hr1, hg1⟩

abbrev fromL : List ByteArray := [⟨#[]⟩, ⟨#[49, 115]⟩, ⟨#[49, 112, 49]⟩, ⟨#[51, 100, 49, 49]⟩, ⟨#[50, 112, 48, 51]⟩, ⟨#[48, 115, 49]⟩, ⟨#[52, 103, 49]⟩, ⟨#[51, 100, 49, 48, 120]⟩, ⟨#[56, 115, 49]⟩, ⟨#[50, 80, 51]⟩]
set_option maxHeartbeats 4000000 in
theorem draw_from (A : Option Addr) (n c : Nat) (w : World) (h2 : n ≤ c) (hm : c ≤ maxLen) (h5 : Bytes w w.heap.size A n) :
    Calls Tryd.prog 15 #[.slice A n c] w fun e w' => ∃ s : ByteArray, e = .returned (.string s) ∧ s.size ≤ 16 ∧ Below w.heap.size w w' := by
  go_enter Tryd.func15, Tryd.ntmps15
  go_wp2_with fail
  refine (open_any _ _ _ _ h2 hm h5).mono ?_
  rintro e w1 ⟨g, rfl, hr1, hb1⟩
  have hBg := hr1.1
  go_wp2_with fail
  refine (pick_any _ g 0 6 (by omega) _ hr1).mono ?_
  rintro e w2 ⟨x, rfl, hx0, hx1, hx2, hr2, hg2⟩
  have L2 := bel_only hb1 hBg hg2
  clear hg2 hb1
  by_cases h0 : x = 0
  · subst h0
    have h0b : ((0 : Int) == 0) = true := rfl
    go_wp2_with fail
    have O3 := Own.new w2 9 (fromL.map Value.string).toArray
    have hr3 := hr2.below (bel_alloc (Below.refl _ _) (.cells (fromL.map Value.string).toArray 9))
    have L3 := bel_alloc L2 (.cells (fromL.map Value.string).toArray 9)
    have hne : w2.heap.size ≠ g := by have := hr2.lt; omega
    refine (of_any _ g _ (by omega) _ hr3 w2.heap.size 10 fromL rfl (by omega) (by omega) O3 hne (by decide)).mono ?_
    rintro e w3 ⟨s, rfl, hs, hr4, hg4⟩
    have L4 := bel_only L3 hBg hg4
    go_wp2_with fail
    go_ret
    exact ⟨s, rfl, hs, L4⟩
  · have h0b : (x == 0) = false := by simp; omega
    go_wp2_with fail
    refine (l91_shell _ g _ (by omega) _ hr2).mono ?_
    rintro e w3 ⟨a, b, c, rfl, hx, hr3, hg3⟩
    have L3 := bel_only L2 hBg hg3
    go_wp2_with fail
    refine (spec_st a b c _).mono ?_
    rintro e w4 ⟨rfl, hb4⟩
    have hz := sh_size a b c
    go_wp2_with fail
    go_ret
    exact ⟨_, rfl, by omega, bel_trans L3 hb4⟩

end Go.Proofs.YtgmdljlbiokcaaaDoor
