/-
  The draw of a configuration for the laws of parity.
-/
import Derived.Test.YtocknafdgeneoaaDrawConfs
namespace Go.Proofs.Ytocknafdgeneoaa
open Go.ChangeShapes Go.WideShapes Go.ChangeAt Go.RowKit Go.Deep Go.Joins
set_option linter.unusedVariables false

theorem OwnSh.lit1 (w : World) (B : Nat) (s : Sh) (h : B ≤ w.heap.size) : OwnSh (w.alloc (.cells #[.int .i64 s.1, .int .i64 s.2.1, .int .i64 s.2.2] 34)) B (.slice (some ⟨w.heap.size, 0, none⟩) 1 1) [s] :=
  ⟨rfl, .inr ⟨w.heap.size, 1, _, rfl, h, heap_alloc_new w _, Nat.le_refl _, by simp [maxLen], rfl, rfl⟩⟩

set_option maxHeartbeats 2000000 in
theorem draw_conf_pa (A : Option Addr) (n c : Nat) (w : World) (h2 : n ≤ c) (hm : c ≤ maxLen) (h5 : Bytes w w.heap.size A n) :
    Calls Try.prog 25 #[.slice A n c] w (ConfDraw w) := by
  go_enter Try.func25, Try.ntmps25
  go_wp2_with fail
  refine (open_any _ _ _ _ h2 hm h5).mono ?_
  rintro e w1 ⟨g, rfl, hr1, L⟩
  go_wp2_with fail
  refine (l92_config _ g 0 (by omega) _ hr1).mono ?_
  rintro e w2 ⟨v, l, rfl, hl, ho, hr, hg⟩
  have hgl := L.size
  have hg1 := hr1.lt
  have L := bel_only L hr1.1 hg
  have hBg := hr1.1
  clear hg
  go_wp2_with fail
  refine (pick_any _ g _ _ (by omega) _ hr).mono ?_
  rintro e w3 ⟨x, rfl, hx0, hx1, _, hr, hg⟩
  have hx1 := hx1 (by omega)
  have ho := (ho.pick hg hg1).less hgl
  have L := bel_only L hBg hg
  clear hg hr1 hg1 hgl
  cases h : x == 0
  · go_wp2_with fail
    go_ret
    exact ⟨_, l, rfl, hl, ho, L⟩
  · clear ho
    have hB := L.size
    go_wp2_with fail
    refine (pick_any _ g _ _ (by omega) _ hr).mono ?_
    rintro e w4 ⟨y, rfl, hy0, hy1, _, hr, hg⟩
    have hy1 := hy1 (by omega)
    have L := bel_only L hBg hg
    clear hg
    go_wp2_with fail
    refine (pick_any _ g _ _ (by omega) _ (hr.below (bel_alloc (Below.refl _ _) _))).mono ?_
    rintro e w5 ⟨z, rfl, hz0, hz1, _, hr', hg⟩
    have hz1 := hz1 (by omega)
    have hgl := hr.lt
    have O17 := (OwnSh.lit1 w4 w4.heap.size (2, 1, 1 + 2 * y) (Nat.le_refl _)).pick hg hgl
    have hz4 := L.size
    have L := bel_only (bel_alloc L _) hBg hg
    clear hg hr
    go_wp2_with fail
    refine (pick_any _ g _ _ (by omega) _ hr').mono ?_
    rintro e w6 ⟨u, rfl, hu0, hu1, _, hr, hg⟩
    have hu1 := hu1 (by omega)
    have O17 := (O17.pick hg hgl).less hz4
    have L := bel_only L hBg hg
    have hz6 := L.size
    clear hg hr hr'
    go_wp2_with (at_builtin; refine app_shell w.heap.size rfl 17 25 rfl _ [(2, 1, 1 + 2 * y)] rfl (O17.alloc _) (by simp; omega) _ (3, 2 * z, 1 + u) rfl (own_here (by first | rfl | simp)) (by simp) ?_; intro v' w7 hown' hgr _)
    have L7 : Below w.heap.size w w7 := (bel_alloc L _).grown hgr (by simp; omega) (fun k hk => (World.ownsRow.lt O17 k hk).1)
    clear hgr O17
    go_wp2_with fail
    go_ret
    exact ⟨_, _, rfl, by simp, hown', L7⟩

end Go.Proofs.Ytocknafdgeneoaa
