/-
  The reference's putting of a shell at its place.
-/
import Derived.Test.YtgemocbpfbdnmaaDrawConfs
namespace Go.Proofs.Ytgemocbpfbdnmaa
open Go.ChangeShapes Go.WideShapes Go.ChangeAt Go.RowKit Go.Deep Go.Joins
set_option linter.unusedVariables false
set_option maxRecDepth 100000

/-- the list after some rounds, and whether the shell stands in it -/
def putUp (l : List Sh) (s : Sh) : Nat → List Sh × Bool
  | 0 => ([], false)
  | k + 1 => if (putUp l s k).2 = false ∧ lessB s (l.getD k sh0) = true then ((putUp l s k).1 ++ [s] ++ [l.getD k sh0], true) else ((putUp l s k).1 ++ [l.getD k sh0], (putUp l s k).2)
def putS (l : List Sh) (s : Sh) : List Sh := if (putUp l s l.length).2 = true then (putUp l s l.length).1 else (putUp l s l.length).1 ++ [s]
theorem putUp_le (l : List Sh) (s : Sh) (k : Nat) : (putUp l s k).1.length ≤ 2 * k := by
  induction k with
  | zero => simp [putUp]
  | succ k ih =>
    unfold putUp
    split <;> simp <;> omega

set_option maxHeartbeats 4000000 in
theorem spec_put (v : Value) (l : List Sh) (s : Sh) (w : World) (hv : ShAt w w.heap.size v l) (hn : l.length ≤ 1048600) :
    Calls Try.prog 37 #[v, .agg #[.int .i64 s.1, .int .i64 s.2.1, .int .i64 s.2.2]] w (RowEnd (putS l s) w) := by
  obtain ⟨A, c, rfl, hlc, hcm, hc⟩ := hv
  unfold maxLen at hcm
  obtain ⟨B, hB⟩ : ∃ B, w.heap.size = B := ⟨_, rfl⟩
  have O0 : Own ((w.alloc (.cells #[.int .i64 s.1, .int .i64 s.2.1, .int .i64 s.2.2] 29)).alloc (.cells #[] 29)) B 29 #[.int .i64 s.1, .int .i64 s.2.1, .int .i64 s.2.2] := by rw [← hB]; exact (Own.new w _ _).alloc _
  have E0 : OwnSh ((w.alloc (.cells #[.int .i64 s.1, .int .i64 s.2.1, .int .i64 s.2.2] 29)).alloc (.cells #[] 29)) (B + 1) (.slice (some ⟨B + 1, 0, none⟩) 0 0) [] := by
    have := OwnSh.empty (w.alloc (.cells #[.int .i64 s.1, .int .i64 s.2.1, .int .i64 s.2.2] 29)) (B + 1) (by simp; omega)
    rw [World.size_alloc, hB] at this
    exact this
  have L0 : Below w.heap.size w ((w.alloc (.cells #[.int .i64 s.1, .int .i64 s.2.1, .int .i64 s.2.2] 29)).alloc (.cells #[] 29)) := (by repeat (first | exact Below.refl _ _ | assumption | refine bel_drewN ?_ _ | refine bel_drew ?_ | refine bel_alloc ?_ _ | refine bel_set ?_ (by simp; omega) _ | refine bel_set ?_ (by simp) _ | refine bel_trans ?_ (by assumption)))
  go_enter Try.func37, Try.ntmps37
  go_wp2_with fail
  go_loopg [5, 6, 7] l.length (fun gk o d i wr => ∃ k : Nat, gk = l.length - k ∧ k ≤ l.length ∧ i = .int .i64 k ∧ d = .bool (putUp l s k).2 ∧ OwnSh wr (B + 1) o (putUp l s k).1 ∧ Own wr B 29 #[.int .i64 s.1, .int .i64 s.2.1, .int .i64 s.2.2] ∧ Below w.heap.size w wr)
  case atStart => exact ⟨0, rfl, by omega, rfl, rfl, by simpa [putUp, hB] using E0, O0, L0⟩
  case round =>
    clear O0 E0 L0
    obtain ⟨k, rfl, hk, rfl, rfl, hown, hbox, hbel⟩ := hrel
    have q0 := hbox.cell 0
    have q1 := hbox.cell 1
    have q2 := hbox.cell 2
    have ql := hbox.lt
    by_cases hlt : k < l.length
    · obtain ⟨b, off, x, rfl, hbl, hbw, hx, c0, c1, c2⟩ := sh_cells hc hbel hlt
      have hlt' : (k : Int) < (l.length : Int) := by omega
      have hlen := putUp_le l s k
      have hss : putUp l s (k + 1) = if (putUp l s k).2 = false ∧ lessB s x = true then ((putUp l s k).1 ++ [s] ++ [x], true) else ((putUp l s k).1 ++ [x], (putUp l s k).2) := by rw [hx]; rfl
      clear hx
      generalize hd : (putUp l s k).2 = d at *
      generalize (putUp l s k).1 = o at *
      clear hd
      have hbw2 := hbel.size
      have hnb : some b ≠ (none : Option Nat) := by simp
      cases d
      · cases hl : lessB s x
        · rw [if_neg (by simp [hl])] at hss
          have HT := Lib.hid hss
          clear hss
          go_wp2_with fail
          (refine wp_region_bel (by kernel_rfl) (by kernel_rfl) ?_; (repeat (first | go_big_quiet_skip | (go_big_quiet_want; first | (go_big_quiet_op; go_big_quiet_on) | (unfold Oper.quiet; apply Exists.intro; refine ⟨fun wx hCx => ?_, ?_⟩; (focus (obtain ⟨hcx, hfx⟩ := bcell hCx; go_simp; first | done | exact rfl | exact (less_is s x false hl _).mono (fun _ _ hz => ⟨hz.1, bel_trans hCx hz.2⟩))); simp only [Act.put, List.setIfInBounds_toArray, List.set_cons_zero, List.set_cons_succ]; go_big_quiet_on)))); refine wpQuiet_nil ?_; intro wq hCq)
          have c0 := (hCq.cell (p := ⟨b, off + k * 3, none⟩) hbw).trans c0
          have c1 := (hCq.cell (p := ⟨b, off + k * 3 + 1, none⟩) hbw).trans c1
          have c2 := (hCq.cell (p := ⟨b, off + k * 3 + 2, none⟩) hbw).trans c2
          go_wp2_with (at_builtin; refine app_shell (B + 1) rfl 29 34 rfl _ o rfl ((hown.below hCq).alloc _) (by have := hCq.size; simp; omega) _ x rfl (own_here (by first | rfl | simp)) (by omega) ?_; intro v' w2 hown' hgr _)
          have hb2 : Below w.heap.size w w2 := (bel_alloc (bel_trans hbel hCq) _).grown hgr (by have := hCq.size; simp; omega) (fun k hk => by have := (World.ownsRow.lt hown k hk).1; omega)
          have hx2 : Own w2 B 29 #[.int .i64 s.1, .int .i64 s.2.1, .int .i64 s.2.2] := (hgr.block B ((hbox.below hCq).alloc _).lt (fun e => by have := (World.ownsRow.lt hown B e.symm).1; omega)).trans ((hbox.below hCq).alloc _)
          clear hgr hown hbox
          go_wp2_with fail
          go_roundg (l.length - (k + 1))
          case measure => omega
          case rel => exact ⟨k + 1, rfl, by omega, by go_num, by rw [HT.out], by rw [HT.out]; exact hown', hx2, hb2⟩
        · rw [if_pos (by simp [hl])] at hss
          have HT := Lib.hid hss
          clear hss
          go_wp2_with fail
          (refine wp_region_bel (by kernel_rfl) (by kernel_rfl) ?_; (repeat (first | go_big_quiet_skip | (go_big_quiet_want; first | (go_big_quiet_op; go_big_quiet_on) | (unfold Oper.quiet; apply Exists.intro; refine ⟨fun wx hCx => ?_, ?_⟩; (focus (obtain ⟨hcx, hfx⟩ := bcell hCx; go_simp; first | done | exact rfl | exact (less_is s x true hl _).mono (fun _ _ hz => ⟨hz.1, bel_trans hCx hz.2⟩))); simp only [Act.put, List.setIfInBounds_toArray, List.set_cons_zero, List.set_cons_succ]; go_big_quiet_on)))); refine wpQuiet_nil ?_; intro wq hCq)
          have q0 := (hbox.below hCq).cell 0
          have q1 := (hbox.below hCq).cell 1
          have q2 := (hbox.below hCq).cell 2
          have ql := (hbox.below hCq).lt
          go_wp2_with (at_builtin; first
            | (refine app_shell (B + 1) rfl 25 27 rfl _ o rfl ((hown.below hCq).alloc _) (by have := hCq.size; simp; omega) _ s rfl (own_here (by first | rfl | simp)) (by omega) ?_; intro v' w2 hown' hgr _
               have hb2 : Below w.heap.size w w2 := (bel_alloc (bel_trans hbel hCq) _).grown hgr (by have := hCq.size; simp; omega) (fun k hk => by have := (World.ownsRow.lt hown k hk).1; omega)
               have hx2 : Own w2 B 29 #[.int .i64 s.1, .int .i64 s.2.1, .int .i64 s.2.2] := (hgr.block B ((hbox.below hCq).alloc _).lt (fun e => by have := (World.ownsRow.lt hown B e.symm).1; omega)).trans ((hbox.below hCq).alloc _)
               have c0 := (hb2.cell (p := ⟨b, off + k * 3, none⟩) hbl).trans ((hbel.cell (p := ⟨b, off + k * 3, none⟩) hbl).symm.trans c0)
               have c1 := (hb2.cell (p := ⟨b, off + k * 3 + 1, none⟩) hbl).trans ((hbel.cell (p := ⟨b, off + k * 3 + 1, none⟩) hbl).symm.trans c1)
               have c2 := (hb2.cell (p := ⟨b, off + k * 3 + 2, none⟩) hbl).trans ((hbel.cell (p := ⟨b, off + k * 3 + 2, none⟩) hbl).symm.trans c2)
               have hbw3 := hb2.size
               have hx2l := hx2.lt)
            | (refine app_shell (B + 1) rfl 29 34 rfl _ (o ++ [s]) rfl (hown'.alloc _) (by simp; omega) _ x rfl (own_here (by first | rfl | simp)) (by simp; omega) ?_; intro v3 w3 hown3 hgr3 _))
          have hb3 : Below w.heap.size w w3 := (bel_alloc hb2 _).grown hgr3 (by simp; omega) (fun k hk => by have := (World.ownsRow.lt hown' k hk).1; omega)
          have hx3 : Own w3 B 29 #[.int .i64 s.1, .int .i64 s.2.1, .int .i64 s.2.2] := (hgr3.block B (hx2.alloc _).lt (fun e => by have := (World.ownsRow.lt hown' B e.symm).1; omega)).trans (hx2.alloc _)
          clear hgr3 hown' hx2 hgr hown hbox
          go_wp2_with fail
          go_roundg (l.length - (k + 1))
          case measure => omega
          case rel => exact ⟨k + 1, rfl, by omega, by go_num, by rw [HT.out], by rw [HT.out]; exact hown3, hx3, hb3⟩
      · rw [if_neg (by simp)] at hss
        have HT := Lib.hid hss
        clear hss
        go_wp2_with fail
        (refine wp_region_bel (by kernel_rfl) (by kernel_rfl) ?_; (repeat (first | go_big_quiet_skip | (go_big_quiet_want; first | (go_big_quiet_op; go_big_quiet_on) | (unfold Oper.quiet; apply Exists.intro; refine ⟨fun wx hCx => ?_, ?_⟩; (focus (obtain ⟨hcx, hfx⟩ := bcell hCx; go_simp; first | done | exact rfl | exact (less_is s x false (by assumption) _).mono (fun _ _ hz => ⟨hz.1, bel_trans hCx hz.2⟩))); simp only [Act.put, List.setIfInBounds_toArray, List.set_cons_zero, List.set_cons_succ]; go_big_quiet_on)))); refine wpQuiet_nil ?_; intro wq hCq)
        have c0 := (hCq.cell (p := ⟨b, off + k * 3, none⟩) hbw).trans c0
        have c1 := (hCq.cell (p := ⟨b, off + k * 3 + 1, none⟩) hbw).trans c1
        have c2 := (hCq.cell (p := ⟨b, off + k * 3 + 2, none⟩) hbw).trans c2
        go_wp2_with (at_builtin; refine app_shell (B + 1) rfl 29 34 rfl _ o rfl ((hown.below hCq).alloc _) (by have := hCq.size; simp; omega) _ x rfl (own_here (by first | rfl | simp)) (by omega) ?_; intro v' w2 hown' hgr _)
        have hb2 : Below w.heap.size w w2 := (bel_alloc (bel_trans hbel hCq) _).grown hgr (by have := hCq.size; simp; omega) (fun k hk => by have := (World.ownsRow.lt hown k hk).1; omega)
        have hx2 : Own w2 B 29 #[.int .i64 s.1, .int .i64 s.2.1, .int .i64 s.2.2] := (hgr.block B ((hbox.below hCq).alloc _).lt (fun e => by have := (World.ownsRow.lt hown B e.symm).1; omega)).trans ((hbox.below hCq).alloc _)
        clear hgr hown hbox
        go_wp2_with fail
        go_roundg (l.length - (k + 1))
        case measure => omega
        case rel => exact ⟨k + 1, rfl, by omega, by go_num, by rw [HT.out], by rw [HT.out]; exact hown', hx2, hb2⟩
    · have hkl : k = l.length := by omega
      have hlen := putUp_le l s k
      have hbw2 := hbel.size
      cases hd : (putUp l s k).2
      · have HE := Lib.hid (show putS l s = (putUp l s k).1 ++ [s] by rw [hkl] at hd; simp [putS, hd, hkl])
        generalize (putUp l s k).1 = o at *
        clear hkl hd
        go_wp2_with (at_builtin; refine app_shell (B + 1) rfl 38 40 rfl _ o rfl (hown.alloc _) (by simp; omega) _ s rfl (own_here (by first | rfl | simp)) (by omega) ?_; intro v' w2 hown' hgr _)
        have hb2 : Below w.heap.size w w2 := (bel_alloc hbel _).grown hgr (by simp; omega) (fun k hk => by have := (World.ownsRow.lt hown k hk).1; omega)
        go_wp2_with fail
        go_ret
        exact ⟨_, rfl, by rw [HE.out]; exact hown'.less (by omega), hb2⟩
      · have HE := Lib.hid (show putS l s = (putUp l s k).1 by rw [hkl] at hd; simp [putS, hd, hkl])
        generalize (putUp l s k).1 = o at *
        clear hkl hd
        go_wp2_with fail
        go_ret
        exact ⟨_, rfl, by rw [HE.out]; exact hown.less (by omega), hbel⟩

end Go.Proofs.Ytgemocbpfbdnmaa
