/-
  Contracts of the functions that draw a configuration.
-/
import Derived.Test.YtgmdljlbiokcaaaDoorDraw
import Derived.Test.YtgmdljlbiokcaaaDoorConfigOpen
namespace Go.Proofs.YtgmdljlbiokcaaaDoor
open Go.ChangeShapes Go.WideShapes Go.ChangeAt Go.RowKit Go.Deep Go.Joins
set_option linter.unusedVariables false

/-- what a draw of a configuration leaves -/
def ConfEnd (w : World) (B g K : Nat) (e : Ending) (w' : World) : Prop :=
  ∃ v l, e = .returned v ∧ l.length ≤ 12 ∧ OwnSh w' w.heap.size v l ∧ Rdr w' B g K ∧ w.grownBy w' (some g)

def codes : Array Value := #[.int .i64 10, .int .i64 20, .int .i64 21, .int .i64 30, .int .i64 31, .int .i64 32, .int .i64 40, .int .i64 41, .int .i64 42, .int .i64 43, .int .i64 50]
theorem codes_get {i : Nat} (h : i < 11) : ∃ x : Int, codes[i]? = some (.int .i64 x) ∧ 10 ≤ x ∧ x ≤ 50 ∧ x % 10 ≤ 3 := by
  match i, h with
  | 0, _ => exact ⟨10, rfl, by decide, by decide, by decide⟩
  | 1, _ => exact ⟨20, rfl, by decide, by decide, by decide⟩
  | 2, _ => exact ⟨21, rfl, by decide, by decide, by decide⟩
  | 3, _ => exact ⟨30, rfl, by decide, by decide, by decide⟩
  | 4, _ => exact ⟨31, rfl, by decide, by decide, by decide⟩
  | 5, _ => exact ⟨32, rfl, by decide, by decide, by decide⟩
  | 6, _ => exact ⟨40, rfl, by decide, by decide, by decide⟩
  | 7, _ => exact ⟨41, rfl, by decide, by decide, by decide⟩
  | 8, _ => exact ⟨42, rfl, by decide, by decide, by decide⟩
  | 9, _ => exact ⟨43, rfl, by decide, by decide, by decide⟩
  | 10, _ => exact ⟨50, rfl, by decide, by decide, by decide⟩

theorem OwnSh.pick {w w' : World} {B g : Nat} {v : Value} {l : List Sh} (h : OwnSh w B v l) (hg : w.grownBy w' (some g)) (hB : g < B) : OwnSh w' B v l := by
  refine h.kept hg ?_
  cases e : v.ownBlock with
  | none => exact .inl rfl
  | some k => exact .inr fun e' => by have := World.ownsRow.lt h k e; injection e' with e'; omega
/-- an append to an own slice keeps the reader, and all old blocks -/
theorem Own.app {w b : World} {B c : Nat} {v : Value} {l : List Sh} {t : TypeId} {C : Array Value} (h : Own w c t C) (hown : OwnSh w B v l) (hb : w.grownBy b v.ownBlock) (hne : v.ownBlock ≠ some c) : Own b c t C :=
  (hb.block c h.lt (fun e => hne e.symm)).trans h
theorem app_keep {w a b : World} {B g K : Nat} {v : Value} {l : List Sh} (hown : OwnSh a w.heap.size v l) (hg : w.grownBy a (some g)) (hr : Rdr a B g K) (hgl : g < w.heap.size) (hb : a.grownBy b v.ownBlock) :
    w.grownBy b (some g) ∧ Rdr b B g K := by
  have hlt := World.ownsRow.lt hown
  have hBg := hr.1
  refine ⟨⟨hb.os.trans hg.os, hb.tape.trans hg.tape, hb.output.trans hg.output, Nat.le_trans hg.size hb.size, fun i hi hne => ?_⟩, hr.grown hb (fun k e => ?_)⟩
  · refine (hb.block i (by have := hg.size; omega) (fun e => ?_)).trans (hg.block i hi hne)
    have := hlt i e.symm
    omega
  · have := hlt k e
    omega

set_option maxHeartbeats 4000000 in
theorem l92_config (B g K : Nat) (hK : K ≤ 900000) (w : World) (hr : Rdr w B g K) :
    Calls Tryd.prog 43 #[.pointer (some ⟨g, 0, none⟩)] w (ConfEnd w B g (K + 40)) := by
  have hgl := hr.lt
  have hBg := hr.1
  go_enter Tryd.func43, Tryd.ntmps43
  go_wp2_with fail
  have O0 := OwnSh.empty w w.heap.size (Nat.le_refl _)
  go_loopg [3, 5] 11 (fun gk v i wr => ∃ k l, gk = 11 - k ∧ k ≤ 11 ∧ i = .int .i64 (k : Nat) ∧ l.length ≤ k ∧ OwnSh wr w.heap.size v l ∧ v.ownBlock ≠ some (w.heap.size + 1) ∧ Own wr (w.heap.size + 1) 3 codes ∧ Rdr wr B g (K + 3 * k) ∧ w.grownBy wr (some g))
  case atStart => exact ⟨0, [], rfl, by omega, rfl, by simp, O0.alloc _, by simp [Value.ownBlock], by have h := Own.new (w.alloc (.cells #[] 24)) 3 codes; simp at h; exact h, (hr.below (bel_alloc (bel_alloc (Below.refl _ _) _) _)), only_alloc (only_alloc (World.grownBy.refl _ _) _) _⟩
  case round =>
    clear O0
    obtain ⟨k, l, rfl, hk, rfl, hl, hown, hvb, hco, hrd, hg⟩ := hrel
    by_cases hlt : k < 11
    · obtain ⟨x, hx, hx0, hx1, hx2⟩ := codes_get hlt
      have hlt' : (k : Int) < 11 := by omega
      go_wp2_with fail
      refine (pick_any B g (K + 3 * k) _ (by omega) _ hrd).mono ?_
      rintro e w1 ⟨x1, rfl, hx10, hx11, _, hr1, hg1⟩
      have hy1 := hx11 (by omega)
      have o1 := hown.pick hg1 hgl
      have c1 := hco.pick hg1 (by omega)
      have g1 := only_trans hg hg1
      clear hown hco hg hg1 hrd
      cases h1 : x1 == 0
      · go_wp2_with fail
        go_roundg (11 - (k + 1))
        case measure => omega
        case rel => exact ⟨k + 1, l, rfl, by omega, by go_num, by omega, o1, hvb, c1, hr1.more (by omega), g1⟩
      · have q1 := c1.cell
        have q1 := (q1 k).trans hx
        have l1 := c1.lt
        go_wp2_with fail
        refine (pick_any B g (K + 3 * k + 1) _ (by omega) _ hr1).mono ?_
        rintro e w2 ⟨x2, rfl, hx20, hx21, _, hr2, hg2⟩
        have hy2 := hx21 (by omega)
        have o2 := o1.pick hg2 hgl
        have c2 := c1.pick hg2 (by omega)
        have g2 := only_trans g1 hg2
        clear o1 c1 g1 hg2 hr1 q1 l1
        have q2 := c2.cell
        have q2 := (q2 k).trans hx
        have l2 := c2.lt
        cases h2 : x2 == 0
        · go_wp2_with (at_builtin; refine app_shell w.heap.size rfl 36 45 rfl _ l rfl (o2.alloc _) (by have := g2.size; simp; omega) _ (_, _, _) rfl (own_here (by first | rfl | simp)) (by omega) ?_; intro v' w5 hown' hgr hor)
          obtain ⟨hg5, hr5⟩ := app_keep (o2.alloc _) (only_alloc g2 _) (hr2.below (bel_alloc (Below.refl _ _) _)) hgl hgr
          have c5 := (c2.alloc _).app (o2.alloc _) hgr hvb
          have hvb' : v'.ownBlock ≠ some (w.heap.size + 1) := by
            rcases hor with e | e
            · rw [e]; exact hvb
            · rw [e]; intro e'; injection e' with e'; simp at e'; omega
          clear hgr hr2 o2 c2 g2 q2 l2
          go_wp2_with fail
          go_roundg (11 - (k + 1))
          case measure => omega
          case rel => exact ⟨k + 1, _, rfl, by omega, by go_num, by simp; omega, hown', hvb', c5, hr5.more (by omega), hg5⟩
        · go_wp2_with fail
          refine (pick_any B g (K + 3 * k + 1 + 1) _ (by omega) _ hr2).mono ?_
          rintro e w3 ⟨x3, rfl, hx30, hx31, _, hr3, hg3⟩
          have hy3 := hx31 (by omega)
          have o3 := o2.pick hg3 hgl
          have c3 := c2.pick hg3 (by omega)
          have g3 := only_trans g2 hg3
          clear o2 c2 g2 hg3 hr2 q2 l2
          have q3 := c3.cell
          have q3 := (q3 k).trans hx
          have l3 := c3.lt
          go_wp2_with (at_builtin; refine app_shell w.heap.size rfl 36 45 rfl _ l rfl (o3.alloc _) (by have := g3.size; simp; omega) _ (_, _, _) rfl (own_here (by first | rfl | simp)) (by omega) ?_; intro v' w5 hown' hgr hor)
          obtain ⟨hg5, hr5⟩ := app_keep (o3.alloc _) (only_alloc g3 _) (hr3.below (bel_alloc (Below.refl _ _) _)) hgl hgr
          have c5 := (c3.alloc _).app (o3.alloc _) hgr hvb
          have hvb' : v'.ownBlock ≠ some (w.heap.size + 1) := by
            rcases hor with e | e
            · rw [e]; exact hvb
            · rw [e]; intro e'; injection e' with e'; simp at e'; omega
          clear hgr hr3 o3 c3 g3 q3 l3
          go_wp2_with fail
          go_roundg (11 - (k + 1))
          case measure => omega
          case rel => exact ⟨k + 1, _, rfl, by omega, by go_num, by simp; omega, hown', hvb', c5, hr5.more (by omega), hg5⟩
    · obtain rfl : k = 11 := by omega
      clear hco hvb
      by_cases hl0 : l.length = 0
      · obtain rfl : l = [] := List.eq_nil_of_length_eq_zero hl0
        rcases hown.free with ⟨rfl, _⟩ | ⟨g1, cp, cur, hgb, hBg1, rfl, hcp, hcm, hcur, hsz⟩
        · go_wp2_with fail
          refine (pick_any B g (K + 33) _ (by omega) _ (hrd.more (by omega))).mono ?_
          rintro e w0 ⟨x0, rfl, hx00, hx01, _, hr0, hg0⟩
          have hy0 := hx01 (by omega)
          have o0 := hown.pick hg0 hgl
          have g0' := only_trans hg hg0
          clear hown hg hg0 hrd
          go_wp2_with (at_builtin; refine app_shell w.heap.size rfl 50 55 rfl _ [] rfl (o0.alloc _) (by have := g0'.size; simp; omega) _ (_, _, _) rfl (own_here (by first | rfl | simp)) (by simp) ?_; intro v' w5 hown' hgr hor)
          obtain ⟨hg, hrd⟩ := app_keep (o0.alloc _) (only_alloc g0' _) (hr0.below (bel_alloc (Below.refl _ _) _)) hgl hgr
          obtain ⟨l, hl1, hl2, hown⟩ : ∃ l : List Sh, 0 < l.length ∧ l.length ≤ 11 ∧ OwnSh w5 w.heap.size v' l := ⟨_, by simp, by simp, hown'⟩
          clear hown' hgr hor o0 g0' hr0
          rcases hown.free with ⟨rfl, h0⟩ | ⟨g1, cp, cur, hgb, hBg1, rfl, hcp, hcm, hcur, hsz⟩
          · omega
          · go_wp2_with fail
            refine (pick_any B g (K + 35) _ (by omega) _ (hrd.more (by omega))).mono ?_
            rintro e w1 ⟨x1, rfl, hx10, hx11, _, hr1, hg1⟩
            have hy1 := hx11 (by omega)
            have o1 := hown.pick hg1 hgl
            have g1' := only_trans hg hg1
            have m1 := hcur.pick hg1 (by omega)
            have hpos : 0 < l.length := by omega
            obtain ⟨s, hs⟩ : ∃ s, l[0]? = some s := ⟨_, List.getElem?_eq_getElem hpos⟩
            obtain ⟨k0, k1, k2⟩ := flat_get l 0 s hs
            have r0 : w1.cell? ⟨g1, 0, none⟩ = some (.int .i64 s.1) := (World.ownsRow.cellAt o1 0 (by omega)).trans k0
            have r1 : w1.cell? ⟨g1, 1, none⟩ = some (.int .i64 s.2.1) := (World.ownsRow.cellAt o1 1 (by omega)).trans k1
            have r2 : w1.cell? ⟨g1, 2, none⟩ = some (.int .i64 s.2.2) := (World.ownsRow.cellAt o1 2 (by omega)).trans k2
            clear k0 k1 k2
            have rf := m1.frozen
            clear hown hg hg1 hrd hcur
            by_cases e0 : x1 = 0
            · subst e0
              go_wp2_with fail
              go_ret
              refine ⟨_, (s.1, s.2.1, 0) :: l.tail, rfl, by simp; omega, ?_, (hr1.set_ (p := ⟨g1, 2, none⟩) (by simp; omega) (by simp; omega) _).more (by omega), only_set g1' (p := ⟨g1, 2, none⟩) (by simp; omega) _⟩
              have hst := (World.ownsRow.stored o1 2 (.int .i64 0)).1
              have hll : l = s :: l.tail := by
                cases l with
                | nil => simp at hs
                | cons y l => simp at hs; simp [hs]
              have hlen : ((s.1, s.2.1, 0) :: l.tail).length = l.length := by rw [hll]; rfl
              have hfl : flat ((s.1, s.2.1, 0) :: l.tail) = (flat l).set 2 (.int .i64 0) := by rw [hll]; rfl
              unfold OwnSh
              rw [hlen, hfl]
              exact hst
            · by_cases e1 : x1 = 1
              · subst e1
                go_wp2_with (at_builtin; refine app_shell w.heap.size rfl 66 70 rfl _ l rfl (o1.alloc _) (by have := g1'.size; simp; omega) _ s rfl (own_here (by first | rfl | simp)) (by omega) ?_; intro v' w5 hown' hgr hor)
                obtain ⟨hg5, hr5⟩ := app_keep (o1.alloc _) (only_alloc g1' _) (hr1.below (bel_alloc (Below.refl _ _) _)) hgl hgr
                clear hgr r0 r1 r2 rf o1 m1 g1'
                go_wp2_with fail
                go_ret
                exact ⟨_, _, rfl, by simp; omega, hown', hr5.more (by omega), hg5⟩
              · have d0 : (x1 == 0) = false := by simp [e0]
                have d1 : (x1 == 1) = false := by simp [e1]
                by_cases e2 : x1 = 2
                · subst e2
                  have hz := g1'.size
                  go_wp2_with fail
                  go_ret
                  exact ⟨_, [], rfl, by simp, OwnSh.empty w1 _ hz, (hr1.below (bel_alloc (Below.refl _ _) _)).more (by omega), only_alloc g1' _⟩
                · have d2 : (x1 == 2) = false := by simp [e2]
                  go_wp2_with fail
                  go_ret
                  exact ⟨_, l, rfl, by omega, o1, hr1.more (by omega), g1'⟩
        · go_wp2_with fail
          refine (pick_any B g (K + 33) _ (by omega) _ (hrd.more (by omega))).mono ?_
          rintro e w0 ⟨x0, rfl, hx00, hx01, _, hr0, hg0⟩
          have hy0 := hx01 (by omega)
          have o0 := hown.pick hg0 hgl
          have g0' := only_trans hg hg0
          clear hown hg hg0 hrd
          go_wp2_with (at_builtin; refine app_shell w.heap.size rfl 50 55 rfl _ [] rfl (o0.alloc _) (by have := g0'.size; simp; omega) _ (_, _, _) rfl (own_here (by first | rfl | simp)) (by simp) ?_; intro v' w5 hown' hgr hor)
          obtain ⟨hg, hrd⟩ := app_keep (o0.alloc _) (only_alloc g0' _) (hr0.below (bel_alloc (Below.refl _ _) _)) hgl hgr
          obtain ⟨l, hl1, hl2, hown⟩ : ∃ l : List Sh, 0 < l.length ∧ l.length ≤ 11 ∧ OwnSh w5 w.heap.size v' l := ⟨_, by simp, by simp, hown'⟩
          clear hown' hgr hor o0 g0' hr0
          rcases hown.free with ⟨rfl, h0⟩ | ⟨g1, cp, cur, hgb, hBg1, rfl, hcp, hcm, hcur, hsz⟩
          · omega
          · go_wp2_with fail
            refine (pick_any B g (K + 35) _ (by omega) _ (hrd.more (by omega))).mono ?_
            rintro e w1 ⟨x1, rfl, hx10, hx11, _, hr1, hg1⟩
            have hy1 := hx11 (by omega)
            have o1 := hown.pick hg1 hgl
            have g1' := only_trans hg hg1
            have m1 := hcur.pick hg1 (by omega)
            have hpos : 0 < l.length := by omega
            obtain ⟨s, hs⟩ : ∃ s, l[0]? = some s := ⟨_, List.getElem?_eq_getElem hpos⟩
            obtain ⟨k0, k1, k2⟩ := flat_get l 0 s hs
            have r0 : w1.cell? ⟨g1, 0, none⟩ = some (.int .i64 s.1) := (World.ownsRow.cellAt o1 0 (by omega)).trans k0
            have r1 : w1.cell? ⟨g1, 1, none⟩ = some (.int .i64 s.2.1) := (World.ownsRow.cellAt o1 1 (by omega)).trans k1
            have r2 : w1.cell? ⟨g1, 2, none⟩ = some (.int .i64 s.2.2) := (World.ownsRow.cellAt o1 2 (by omega)).trans k2
            clear k0 k1 k2
            have rf := m1.frozen
            clear hown hg hg1 hrd hcur
            by_cases e0 : x1 = 0
            · subst e0
              go_wp2_with fail
              go_ret
              refine ⟨_, (s.1, s.2.1, 0) :: l.tail, rfl, by simp; omega, ?_, (hr1.set_ (p := ⟨g1, 2, none⟩) (by simp; omega) (by simp; omega) _).more (by omega), only_set g1' (p := ⟨g1, 2, none⟩) (by simp; omega) _⟩
              have hst := (World.ownsRow.stored o1 2 (.int .i64 0)).1
              have hll : l = s :: l.tail := by
                cases l with
                | nil => simp at hs
                | cons y l => simp at hs; simp [hs]
              have hlen : ((s.1, s.2.1, 0) :: l.tail).length = l.length := by rw [hll]; rfl
              have hfl : flat ((s.1, s.2.1, 0) :: l.tail) = (flat l).set 2 (.int .i64 0) := by rw [hll]; rfl
              unfold OwnSh
              rw [hlen, hfl]
              exact hst
            · by_cases e1 : x1 = 1
              · subst e1
                go_wp2_with (at_builtin; refine app_shell w.heap.size rfl 66 70 rfl _ l rfl (o1.alloc _) (by have := g1'.size; simp; omega) _ s rfl (own_here (by first | rfl | simp)) (by omega) ?_; intro v' w5 hown' hgr hor)
                obtain ⟨hg5, hr5⟩ := app_keep (o1.alloc _) (only_alloc g1' _) (hr1.below (bel_alloc (Below.refl _ _) _)) hgl hgr
                clear hgr r0 r1 r2 rf o1 m1 g1'
                go_wp2_with fail
                go_ret
                exact ⟨_, _, rfl, by simp; omega, hown', hr5.more (by omega), hg5⟩
              · have d0 : (x1 == 0) = false := by simp [e0]
                have d1 : (x1 == 1) = false := by simp [e1]
                by_cases e2 : x1 = 2
                · subst e2
                  have hz := g1'.size
                  go_wp2_with fail
                  go_ret
                  exact ⟨_, [], rfl, by simp, OwnSh.empty w1 _ hz, (hr1.below (bel_alloc (Below.refl _ _) _)).more (by omega), only_alloc g1' _⟩
                · have d2 : (x1 == 2) = false := by simp [e2]
                  go_wp2_with fail
                  go_ret
                  exact ⟨_, l, rfl, by omega, o1, hr1.more (by omega), g1'⟩
      · rcases hown.free with ⟨rfl, h0⟩ | ⟨g1, cp, cur, hgb, hBg1, rfl, hcp, hcm, hcur, hsz⟩
        · omega
        · have hd : ((l.length : Int) == 0) = false := by
            cases l with
            | nil => exact absurd rfl hl0
            | cons s l => simp; omega
          go_wp2_with fail
          refine (pick_any B g (K + 35) _ (by omega) _ (hrd.more (by omega))).mono ?_
          rintro e w1 ⟨x1, rfl, hx10, hx11, _, hr1, hg1⟩
          have hy1 := hx11 (by omega)
          have o1 := hown.pick hg1 hgl
          have g1' := only_trans hg hg1
          have m1 := hcur.pick hg1 (by omega)
          have hpos : 0 < l.length := by omega
          obtain ⟨s, hs⟩ : ∃ s, l[0]? = some s := ⟨_, List.getElem?_eq_getElem hpos⟩
          obtain ⟨k0, k1, k2⟩ := flat_get l 0 s hs
          have r0 : w1.cell? ⟨g1, 0, none⟩ = some (.int .i64 s.1) := (World.ownsRow.cellAt o1 0 (by omega)).trans k0
          have r1 : w1.cell? ⟨g1, 1, none⟩ = some (.int .i64 s.2.1) := (World.ownsRow.cellAt o1 1 (by omega)).trans k1
          have r2 : w1.cell? ⟨g1, 2, none⟩ = some (.int .i64 s.2.2) := (World.ownsRow.cellAt o1 2 (by omega)).trans k2
          clear k0 k1 k2
          have rf := m1.frozen
          clear hown hg hg1 hrd hcur
          by_cases e0 : x1 = 0
          · subst e0
            go_wp2_with fail
            go_ret
            refine ⟨_, (s.1, s.2.1, 0) :: l.tail, rfl, by simp; omega, ?_, (hr1.set_ (p := ⟨g1, 2, none⟩) (by simp; omega) (by simp; omega) _).more (by omega), only_set g1' (p := ⟨g1, 2, none⟩) (by simp; omega) _⟩
            have hst := (World.ownsRow.stored o1 2 (.int .i64 0)).1
            have hll : l = s :: l.tail := by
              cases l with
              | nil => simp at hs
              | cons y l => simp at hs; simp [hs]
            have hlen : ((s.1, s.2.1, 0) :: l.tail).length = l.length := by rw [hll]; rfl
            have hfl : flat ((s.1, s.2.1, 0) :: l.tail) = (flat l).set 2 (.int .i64 0) := by rw [hll]; rfl
            unfold OwnSh
            rw [hlen, hfl]
            exact hst
          · by_cases e1 : x1 = 1
            · subst e1
              go_wp2_with (at_builtin; refine app_shell w.heap.size rfl 66 70 rfl _ l rfl (o1.alloc _) (by have := g1'.size; simp; omega) _ s rfl (own_here (by first | rfl | simp)) (by omega) ?_; intro v' w5 hown' hgr hor)
              obtain ⟨hg5, hr5⟩ := app_keep (o1.alloc _) (only_alloc g1' _) (hr1.below (bel_alloc (Below.refl _ _) _)) hgl hgr
              clear hgr r0 r1 r2 rf o1 m1 g1'
              go_wp2_with fail
              go_ret
              exact ⟨_, _, rfl, by simp; omega, hown', hr5.more (by omega), hg5⟩
            · have d0 : (x1 == 0) = false := by simp [e0]
              have d1 : (x1 == 1) = false := by simp [e1]
              by_cases e2 : x1 = 2
              · subst e2
                have hz := g1'.size
                go_wp2_with fail
                go_ret
                exact ⟨_, [], rfl, by simp, OwnSh.empty w1 _ hz, (hr1.below (bel_alloc (Below.refl _ _) _)).more (by omega), only_alloc g1' _⟩
              · have d2 : (x1 == 2) = false := by simp [e2]
                go_wp2_with fail
                go_ret
                exact ⟨_, l, rfl, by omega, o1, hr1.more (by omega), g1'⟩

end Go.Proofs.YtgmdljlbiokcaaaDoor
