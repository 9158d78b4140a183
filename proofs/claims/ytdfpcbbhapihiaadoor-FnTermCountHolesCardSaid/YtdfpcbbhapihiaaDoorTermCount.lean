/-
  The number of terms: what the program's and the reference's functions return.
-/
import Derived.Test.YtdfpcbbhapihiaaDoorMicroTop
import Derived.Test.YtdfpcbbhapihiaaDoorMapTwo
import Derived.BigQuiet
namespace Go.Proofs.YtdfpcbbhapihiaaDoor
open Go.ChangeShapes Go.WideShapes Go.ChangeAt Go.RowKit Go.Deep Go.Joins micro
open Go.ChangeMaps (setBlock)
set_option linter.unusedVariables false

theorem tblTy : MapTy Tryd.prog 54 45 3 where
  und := Tryd.underlying54
  law := deep_law_laid laidOut (m := 2) (by omega) (of_decide_eq_true (by kernel_rfl)) (by kernel_rfl) (by kernel_rfl)
  key := key_two Tryd.underlying45 Tryd.underlying3 Tryd.underlying3 rfl rfl (by kernel_rfl) (by kernel_rfl) (by kernel_rfl) (by decide) (by decide) (by kernel_rfl) (of_decide_eq_true (by kernel_rfl))
  zero := fun u => by kernel_rfl

/-- the entries after some pairs have been counted -/
def cntF (l : List Pr) : List (Pr × Int) := l.foldl (fun F t => putF F t (getF F t + 1)) []
theorem cntF_snoc (l : List Pr) (t : Pr) : cntF (l ++ [t]) = putF (cntF l) t (getF (cntF l) t + 1) := by simp [cntF, List.foldl_append]
theorem cntF_get : ∀ (l : List Pr) (F : List (Pr × Int)) (r : Pr), getF (l.foldl (fun F t => putF F t (getF F t + 1)) F) r = getF F r + cntP l r.1 r.2 := by
  intro l
  induction l with
  | nil => intro F r; simp [cntP]
  | cons t l ih =>
    intro F r
    rw [List.foldl_cons, ih, getF_putF]
    unfold cntP
    rw [List.countP_cons]
    by_cases h : t = r
    · subst h
      simp
      omega
    · rw [if_neg h]
      have : (t.1 == r.1 && t.2 == r.2) = false := by
        rw [← Bool.not_eq_true]
        intro hh
        simp at hh
        exact h (Prod.ext hh.1 hh.2)
      rw [this]; simp
theorem cntF_at (l : List Pr) (r : Pr) : getF (cntF l) r = cntP l r.1 r.2 := by
  have := cntF_get l [] r
  rw [show getF [] r = 0 from rfl, Int.zero_add] at this
  exact this

theorem own_refl (w : World) (g : Nat) : w.grownBy w (some g) := ⟨rfl, rfl, rfl, Nat.le_refl _, fun _ _ _ => rfl⟩
theorem bel_own {w a b : World} {g : Nat} (h : Below w.heap.size w a) (hB : w.heap.size ≤ g) (hg : a.grownBy b (some g)) : Below w.heap.size w b :=
  h.grown hg h.size (fun k e => by injection e with e; subst e; exact hB)

/-- what a call that counts microstates in a table leaves -/
def TblEnd (q : List Pr) (w : World) (e : Ending) (w' : World) : Prop := ∃ b, e = .returned (.map (some b)) ∧ MapL w' b (cntF q) ∧ w.heap.size ≤ b ∧ Below w.heap.size w w'

set_option maxHeartbeats 4000000 in
theorem impl_tbl (m : Nat) (n : Int) (hm : m ≤ 2) (w : World) (hT : Tab w) : Calls Tryd.prog 32 #[.int .i64 m, .int .i64 n] w (TblEnd (ms m n) w) := by
  have hle := ms_le hm n
  have HMS := Lib.hid (fun w hT => impl_ms m n hm w hT)
  have HB := Lib.hid (ms_bd hm n)
  generalize ms m n = q at *
  have HT := Lib.hid hT
  clear hT
  obtain ⟨b, hb⟩ : ∃ b, w.heap.size = b := ⟨_, rfl⟩
  have hmk : (Instr.makeMap 54 none).run Tryd.prog w = .ok (.map (some b)) (w.alloc (.map #[] 0)) := by rw [← hb]; exact run_makeMap _ w
  go_enter Tryd.func32, Tryd.ntmps32
  go_wp2_with fail
  refine (HMS.out _ (HT.out.bel (bel_alloc (Below.refl _ _) _))).mono ?_
  rintro e w1 ⟨v, rfl, hown, hb1⟩
  have hL1 := (MapL.made w).below hb1
  have L1 := bel_trans (bel_alloc (Below.refl _ _) (.map #[] 0)) hb1
  have hown := hown.less (B' := b + 1) (by rw [← hb]; simp)
  have ha := hown.at_
  obtain ⟨A, c, rfl, hlc, hcm, hc⟩ := ha
  unfold maxLen at hcm
  have hbz : w.heap.size ≤ b := by omega
  have hb1z : b < w1.heap.size := by have := hL1.lt; omega
  rw [hb] at hL1
  clear hc hb1
  go_wp2_with fail
  go_loopg [13] q.length (fun gk i wr => ∃ k : Nat, gk = q.length - k ∧ k ≤ q.length ∧ i = .int .i64 k ∧ MapL wr b (cntF (q.take k)) ∧ w1.grownBy wr (some b))
  case atStart => exact ⟨0, rfl, by omega, rfl, hL1, own_refl _ _⟩
  case round =>
    obtain ⟨k, rfl, hk, rfl, hM, hgr⟩ := hrel
    by_cases hlt : k < q.length
    · have hp := (hown.pick hgr (by omega)).at_
      obtain ⟨A', c', e1, _, _, hc⟩ := hp
      injection e1 with e2 e3 e4
      subst e2
      obtain ⟨b', off, rfl, hbl, hbw, c0, c1⟩ := pr_cells hc (Below.refl _ _) hlt
      clear e3 e4 hc
      have hlt' : (k : Int) < (q.length : Int) := by omega
      have hsn := cntF_snoc (q.take k) q[k]
      rw [← List.take_succ_eq_append_getElem hlt, cntF_at] at hsn
      have hbd := cntP_bd (q.take k) q[k].1 q[k].2
      rw [List.length_take] at hbd
      obtain ⟨bd0, bd1⟩ := hbd
      have bd2 : cntP (q.take k) q[k].1 q[k].2 ≤ 1024 := by omega
      clear bd1
      have hget := cntF_at (q.take k) q[k]
      have hok : okKey q[k] := by have := HB.out q[k] (List.getElem_mem hlt); unfold okKey; omega
      generalize cntP (q.take k) q[k].1 q[k].2 = z at *
      have hsn := Lib.hid hsn
      generalize cntF (q.take k) = F at *
      obtain ⟨t, ht⟩ : ∃ t, q[k] = t := ⟨_, rfl⟩
      rw [ht] at hget hok hsn c0 c1
      obtain ⟨W, hW⟩ : ∃ W, wr.alloc (Obj.cells #[Value.int IntKind.i64 t.1, Value.int IntKind.i64 t.2] 45) = W := ⟨_, rfl⟩
      have hMW : MapL W.drew b F := hW ▸ (hM.alloc _).drew
      have hgW : w1.grownBy W.drew (some b) := only_drew (hW ▸ only_alloc hgr _)
      have q0 : W.cell? ⟨wr.heap.size, 0, none⟩ = some (.int .i64 t.1) := hW ▸ (Own.new wr 45 #[.int .i64 t.1, .int .i64 t.2]).cell 0
      have q1 : W.cell? ⟨wr.heap.size, 1, none⟩ = some (.int .i64 t.2) := hW ▸ (Own.new wr 45 #[.int .i64 t.1, .int .i64 t.2]).cell 1
      have k1 := hMW.look tblTy hok
      obtain ⟨st, o1, k2, hM2, hst⟩ := hMW.entry tblTy hok
      obtain ⟨W2, hW2⟩ : ∃ W2, setBlock W.drew b o1 = W2 := ⟨_, rfl⟩
      have hg2 : w1.grownBy W2 (some b) := hW2 ▸ only_trans hgW (grown_set _ _ _)
      rw [hW2] at k2 hM2 hst
      have k3 := hM2.look tblTy hok
      obtain ⟨o2, k4, hM3⟩ := hst W2 (z + 1) rfl
      have hg3 : w1.grownBy (setBlock W2 b o2) (some b) := only_trans hg2 (grown_set _ _ _)
      obtain ⟨W3, hW3⟩ : ∃ W3, setBlock W2 b o2 = W3 := ⟨_, rfl⟩
      rw [hW3] at k4 hM3 hg3
      rw [getF_addF] at k3
      rw [hget] at k1 k2 k3
      have k1 : (Instr.lookup 54 (.map (some b)) (.agg #[.int .i64 t.1, .int .i64 t.2]) false).run Tryd.prog W.drew = .ok (.int .i64 z) W.drew := k1
      have k2 : (Instr.mapEntry 54 (.map (some b)) (.agg #[.int .i64 t.1, .int .i64 t.2])).run Tryd.prog W.drew = .ok (.tuple #[.int .i64 z, goInt st]) W2 := k2
      have k3 : (Instr.lookup 54 (.map (some b)) (.agg #[.int .i64 t.1, .int .i64 t.2]) false).run Tryd.prog W2 = .ok (.int .i64 z) W2 := k3
      have k4 : (Instr.entryStore 54 (.map (some b)) (.int .i64 st) (.int .i64 (z + 1))).run Tryd.prog W2 = .ok () W3 := k4
      have k2 : (Instr.mapEntry 54 (.map (some b)) (.agg #[.int .i64 t.1, .int .i64 t.2])).run Tryd.prog W.drew = .ok (.tuple #[.int .i64 z, .int .i64 st]) W2 := k2
      have HW := Lib.hid hW
      have HN := Lib.hid ht
      have HM3 := Lib.hid hM3
      clear hW hW2 hW3 ht hget hst hM2 hMW
      go_wp2_with fail
      rw [HW.out]
      go_region
      go_wp2_with fail
      go_roundg (q.length - (k + 1))
      case measure => omega
      case rel => exact ⟨k + 1, rfl, by omega, by go_num, by rw [hsn.out]; exact HM3.out, hg3⟩
    · have hkl : k = q.length := by omega
      have HE := Lib.hid (show MapL wr b (cntF q) by
        rw [hkl, List.take_length] at hM
        exact hM)
      clear hkl
      go_wp2_with fail
      go_ret
      exact ⟨b, rfl, HE.out, hbz, bel_own L1 hbz hgr⟩

/-- the number of terms -/
def TC (l n s o : Int) : Int := if tvB s o = true ∧ evB l n = true then MC l n o s - MC l n (o + 1) s - MC l n o (s + 2) + MC l n (o + 1) (s + 2) else -1

theorem quiet_left2 {P : Program} {f : FuncId} {args : Array Value} {w : World} {k n : Nat} {v : Value} (h : Calls P f args (w.drewN (k + n)) fun e w' => e = .returned v ∧ w.drewN (k + n) = w') :
    Calls P f args (w.drewN (k + n)) fun e w'' => e = .returned v ∧ ∃ m, w'' = w.drewN (k + m) := h.mono fun _ _ ⟨he, hm⟩ => ⟨he, n, hm.symm⟩
theorem TC_no {l n s o : Int} (h : tvB s o = false ∨ evB l n = false) : TC l n s o = -1 := by
  rw [TC, if_neg]
  rintro ⟨h1, h2⟩
  rcases h with h | h <;> simp_all
theorem MC_val {l n : Int} {m : Nat} (hv : evB l n = true) (hm : l.toNat = m) (o s : Int) : MC l n o s = cntP (ms m n) o s := by rw [MC, if_pos hv, hm]

set_option maxHeartbeats 4000000 in
theorem impl_tc (l n s o : Int) (w : World) (hT : Tab w) : Calls Tryd.prog 18 #[.int .i64 l, .int .i64 n, .agg #[.int .i64 s, .int .i64 o]] w fun e w' => e = .returned (.int .i64 (TC l n s o)) ∧ Below w.heap.size w w' := by
  have HT := Lib.hid hT
  clear hT
  cases h0 : tvB s o
  · have HC := Lib.hid (TC_no (l := l) (n := n) (.inl h0))
    go_enter Tryd.func18, Tryd.ntmps18
    go_wp2_with (go_at_call 31; refine (impl_tv _ _ _).mono ?_; rintro e w' ⟨rfl, rfl⟩)
    go_ret
    exact ⟨ret_int HC.out.symm, (by repeat (first | exact Below.refl _ _ | assumption | refine bel_drewN ?_ _ | refine bel_drew ?_ | refine bel_alloc ?_ _ | refine bel_set ?_ (by simp; omega) _ | refine bel_set ?_ (by simp) _ | refine bel_trans ?_ (by assumption)))⟩
  · cases h1 : evB l n
    · have HC := Lib.hid (TC_no (s := s) (o := o) (.inr h1))
      go_enter Tryd.func18, Tryd.ntmps18
      go_wp2_with (first | (go_at_call 31; refine (impl_tv _ _ _).mono ?_; rintro e w' ⟨rfl, rfl⟩) | (go_at_call 23; refine (impl_ev _ _ _).mono ?_; rintro e w' ⟨rfl, rfl⟩))
      go_ret
      exact ⟨ret_int HC.out.symm, (by repeat (first | exact Below.refl _ _ | assumption | refine bel_drewN ?_ _ | refine bel_drew ?_ | refine bel_alloc ?_ _ | refine bel_set ?_ (by simp; omega) _ | refine bel_set ?_ (by simp) _ | refine bel_trans ?_ (by assumption)))⟩
    · obtain ⟨m, hm, hm2, hn0, hn1, hmt⟩ := evB_nat h1
      have hb := tvB_true.1 h0
      have hq := fun x y => MC_val h1 hmt x y
      have HC := Lib.hid (show TC l n s o = cntP (ms m n) o s - cntP (ms m n) (o + 1) s - cntP (ms m n) o (s + 2) + cntP (ms m n) (o + 1) (s + 2) by
        rw [TC, if_pos ⟨h0, h1⟩, hq, hq, hq, hq])
      have hle := ms_le hm2 n
      have HTB := Lib.hid (fun w hT => impl_tbl m n hm2 w hT)
      clear hq
      subst hm
      clear hmt
      go_enter Tryd.func18, Tryd.ntmps18
      go_wp2_with (first | (go_at_call 31; refine (impl_tv _ _ _).mono ?_; rintro e w' ⟨rfl, rfl⟩) | (go_at_call 23; refine (impl_ev _ _ _).mono ?_; rintro e w' ⟨rfl, rfl⟩))
      refine (HTB.out _ (HT.out.bel (bel_alloc (bel_alloc (Below.refl _ _) _) _))).mono ?_
      rintro e w1 ⟨b, rfl, hM, _, hb1⟩
      have O := (Own.new w 32 #[.int .i64 s, .int .i64 o]).below (bel_trans (bel_alloc (Below.refl _ _) _) hb1)
      have L := bel_trans (bel_alloc (bel_alloc (Below.refl _ _) _) _) hb1
      have q0 : w1.cell? ⟨w.heap.size, 0, none⟩ = some (.int .i64 s) := O.cell 0
      have q1 : w1.cell? ⟨w.heap.size, 1, none⟩ = some (.int .i64 o) := O.cell 1
      have hk := fun x y => cntF_at (ms m n) (x, y)
      have hcb := fun x y => cntP_bd (ms m n) x y
      have l1 := fun nn => (hM.drewN nn).look tblTy (q := (o, s)) (by unfold okKey; dsimp only; omega)
      have l2 := fun nn => (hM.drewN nn).look tblTy (q := (o + 1, s)) (by unfold okKey; dsimp only; omega)
      have l3 := fun nn => (hM.drewN nn).look tblTy (q := (o, s + 2)) (by unfold okKey; dsimp only; omega)
      have l4 := fun nn => (hM.drewN nn).look tblTy (q := (o + 1, s + 2)) (by unfold okKey; dsimp only; omega)
      rw [hk] at l1 l2 l3 l4
      dsimp only [keyV] at l1 l2 l3 l4
      have b1 := hcb o s
      have b2 := hcb (o + 1) s
      have b3 := hcb o (s + 2)
      have b4 := hcb (o + 1) (s + 2)
      clear hk hcb hM O hb1
      generalize cntP (ms m n) o s = z1 at *
      generalize cntP (ms m n) (o + 1) s = z2 at *
      generalize cntP (ms m n) o (s + 2) = z3 at *
      generalize cntP (ms m n) (o + 1) (s + 2) = z4 at *
      have e1 : IntKind.i64.wrap (o + 1) = o + 1 := IntWalk.i64_in _ (by omega)
      have e2 : IntKind.i64.wrap (s + 2) = s + 2 := IntWalk.i64_in _ (by omega)
      have e3 : IntKind.i64.wrap (z1 - z2) = z1 - z2 := IntWalk.i64_in _ (by omega)
      have e4 : IntKind.i64.wrap (z1 - z2 - z3) = z1 - z2 - z3 := IntWalk.i64_in _ (by omega)
      have e5 : IntKind.i64.wrap (z1 - z2 - z3 + z4) = z1 - z2 - z3 + z4 := IntWalk.i64_in _ (by omega)
      go_wp2_with fail
      go_quiet (fail)
      go_wp2_with fail
      go_ret
      exact ⟨ret_int HC.out.symm, bel_drewN L _⟩

set_option maxHeartbeats 4000000 in
theorem spec_tc (l n s o : Int) (w : World) : Calls Tryd.prog 19 #[.int .i64 l, .int .i64 n, .agg #[.int .i64 s, .int .i64 o]] w fun e w' => e = .returned (.int .i64 (TC l n s o)) ∧ Below w.heap.size w w' := by
  cases h0 : tvB s o
  · have HC := Lib.hid (TC_no (l := l) (n := n) (.inl h0))
    go_enter Tryd.func19, Tryd.ntmps19
    go_wp2_with (go_at_call 33; refine (spec_tv _ _ _).mono ?_; rintro e w' ⟨rfl, rfl⟩)
    go_ret
    exact ⟨ret_int HC.out.symm, (by repeat (first | exact Below.refl _ _ | assumption | refine bel_drewN ?_ _ | refine bel_drew ?_ | refine bel_alloc ?_ _ | refine bel_set ?_ (by simp; omega) _ | refine bel_set ?_ (by simp) _ | refine bel_trans ?_ (by assumption)))⟩
  · cases h1 : evB l n
    · have HC := Lib.hid (TC_no (s := s) (o := o) (.inr h1))
      go_enter Tryd.func19, Tryd.ntmps19
      go_wp2_with (first | (go_at_call 33; refine (spec_tv _ _ _).mono ?_; rintro e w' ⟨rfl, rfl⟩) | (go_at_call 25; refine (spec_ok _ _ _).mono ?_; rintro e w' ⟨rfl, rfl⟩))
      go_ret
      exact ⟨ret_int HC.out.symm, (by repeat (first | exact Below.refl _ _ | assumption | refine bel_drewN ?_ _ | refine bel_drew ?_ | refine bel_alloc ?_ _ | refine bel_set ?_ (by simp; omega) _ | refine bel_set ?_ (by simp) _ | refine bel_trans ?_ (by assumption)))⟩
    · obtain ⟨m, hm, hm2, hn0, hn1, hmt⟩ := evB_nat h1
      have hb := tvB_true.1 h0
      have hq := fun x y => MC_val h1 hmt x y
      obtain ⟨z1, h1'⟩ : ∃ z, MC l n o s = z := ⟨_, rfl⟩
      obtain ⟨z2, h2'⟩ : ∃ z, MC l n (o + 1) s = z := ⟨_, rfl⟩
      obtain ⟨z3, h3'⟩ : ∃ z, MC l n o (s + 2) = z := ⟨_, rfl⟩
      obtain ⟨z4, h4'⟩ : ∃ z, MC l n (o + 1) (s + 2) = z := ⟨_, rfl⟩
      have hle := ms_le hm2 n
      have b1 := cntP_bd (ms m n) o s
      have b2 := cntP_bd (ms m n) (o + 1) s
      have b3 := cntP_bd (ms m n) o (s + 2)
      have b4 := cntP_bd (ms m n) (o + 1) (s + 2)
      rw [← hq, ] at b1 b2 b3 b4
      rw [h1'] at b1
      rw [h2'] at b2
      rw [h3'] at b3
      rw [h4'] at b4
      have HC := Lib.hid (show TC l n s o = z1 - z2 - z3 + z4 by rw [TC, if_pos ⟨h0, h1⟩, h1', h2', h3', h4'])
      have H1 := Lib.hid h1'
      have H2 := Lib.hid h2'
      have H3 := Lib.hid h3'
      have H4 := Lib.hid h4'
      clear h1' h2' h3' h4' hq hm hmt
      generalize (ms m n).length = len at *
      have e1 : IntKind.i64.wrap (o + 1) = o + 1 := IntWalk.i64_in _ (by omega)
      have e2 : IntKind.i64.wrap (s + 2) = s + 2 := IntWalk.i64_in _ (by omega)
      have e3 : IntKind.i64.wrap (z1 - z2) = z1 - z2 := IntWalk.i64_in _ (by omega)
      have e4 : IntKind.i64.wrap (z1 - z2 - z3) = z1 - z2 - z3 := IntWalk.i64_in _ (by omega)
      have e5 : IntKind.i64.wrap (z1 - z2 - z3 + z4) = z1 - z2 - z3 + z4 := IntWalk.i64_in _ (by omega)
      go_enter Tryd.func19, Tryd.ntmps19
      go_wp2_with (first | (go_at_call 33; refine (spec_tv _ _ _).mono ?_; rintro e w' ⟨rfl, rfl⟩) | (go_at_call 25; refine (spec_ok _ _ _).mono ?_; rintro e w' ⟨rfl, rfl⟩))
      go_quiet ((go_at_call 12; first | with_reducible exact quiet_left (spec_mcz H1.out) | with_reducible exact quiet_left (spec_mcz H2.out)))
      go_wp2_with fail
      go_quiet ((go_at_call 12; first | with_reducible exact quiet_left2 (spec_mcz H3.out) | with_reducible exact quiet_left2 (spec_mcz H4.out)))
      go_wp2_with fail
      go_ret
      exact ⟨ret_int HC.out.symm, (by repeat (first | exact Below.refl _ _ | assumption | refine bel_drewN ?_ _ | refine bel_drew ?_ | refine bel_alloc ?_ _ | refine bel_set ?_ (by simp; omega) _ | refine bel_set ?_ (by simp) _ | refine bel_trans ?_ (by assumption)))⟩

end Go.Proofs.YtdfpcbbhapihiaaDoor
