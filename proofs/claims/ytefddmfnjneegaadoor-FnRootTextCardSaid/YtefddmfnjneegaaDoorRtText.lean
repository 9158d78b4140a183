/-
  The texts of rationals and of roots. (Printed by wip/mk_rttext.py.)
-/
import Derived.Test.YtefddmfnjneegaaDoorRootW
import Derived.Test.YtefddmfnjneegaaDoorDecText
namespace Go.Proofs.YtefddmfnjneegaaDoor
open Go.ChangeShapes Go.WideShapes Go.ChangeAt Go.RowKit Go.Deep Go.Joins
set_option linter.unusedVariables false
set_option maxRecDepth 100000

/-- the text of a rational -/
def ratS (n d : Nat) : ByteArray := if d = 1 then decS n else decS n ++ ⟨#[47]⟩ ++ decS d
/-- the text of a root -/
def rtS (a : Rt) : ByteArray := if okR a = true then (if a.1 = 0 then ⟨#[48]⟩ else if a.1 = 1 then ⟨#[115, 113, 114, 116, 40]⟩ ++ ratS a.2.1.toNat a.2.2.toNat ++ ⟨#[41]⟩ else ⟨#[45]⟩ ++ (⟨#[115, 113, 114, 116, 40]⟩ ++ ratS a.2.1.toNat a.2.2.toNat ++ ⟨#[41]⟩)) else ByteArray.empty
theorem msq (t : ByteArray) : (⟨#[45, 115, 113, 114, 116, 40]⟩ : ByteArray) ++ t ++ ⟨#[41]⟩ = ⟨#[45]⟩ ++ (⟨#[115, 113, 114, 116, 40]⟩ ++ t ++ ⟨#[41]⟩) := by
  refine ba_ext ?_
  simp only [ba_app]
  simp
theorem dec10 {u : Nat} (h : u ≤ 1000000000) : (decS u).size ≤ 10 := dec_le 9 u (by rw [show 10 ^ (9 + 1) = 10000000000 by decide]; omega)
theorem rat_size {n d : Nat} (hn : n ≤ 1000000000) (hd : d ≤ 1000000000) : (ratS n d).size ≤ 21 := by
  have a := dec10 hn
  have b := dec10 hd
  have e : (⟨#[47]⟩ : ByteArray).size = 1 := rfl
  unfold ratS
  split
  · omega
  · rw [ByteArray.size_append, ByteArray.size_append]; omega
theorem add_run (a b : ByteArray) (h : a.size + b.size ≤ 1000000) (W : World) : (Op.stringOp .add a b).run Tryd.prog W = .ok (.string (a ++ b)) W := run_string_add_sum W a b (by omega)

set_option maxHeartbeats 4000000 in
theorem impl_rat (N D : Nat) (h : ratB N D = true) (w : World) (hT : TabP w) : Calls Tryd.prog 14 #[.agg #[.int .i64 N, .int .i64 D]] w fun e w' => e = .returned (.string (ratS N D)) ∧ Below w.heap.size w w' := by
  have hb := ratB_true.1 h
  have HV := Lib.hid h
  have hn : N ≤ 1000000000 := by omega
  have hd : D ≤ 1000000000 := by omega
  have zn := dec10 hn
  have zd := dec10 hd
  have HN := Lib.hid (fun w => impl_dec N hn w)
  have HD := Lib.hid (fun w => impl_dec D hd w)
  have HTAB := Lib.hid hT
  clear hT
  clear h
  by_cases h1 : D = 1
  · subst h1
    have HT := Lib.hid (show ratS N 1 = decS N from if_pos rfl)
    generalize ratS N 1 = T at *
    generalize decS N = a at *
    clear zn zd HD hb
    go_enter Tryd.func14, Tryd.ntmps14
    go_wp2_with fail
    refine (impl_rv _ _ _).mono ?_
    rintro e w1 ⟨rfl, hb1⟩
    have L1 := bel_trans (bel_alloc (Below.refl _ _) _) hb1
    have O := (Own.new w 27 #[.int .i64 N, .int .i64 1]).below hb1
    have q0 : w1.cell? ⟨w.heap.size, 0, none⟩ = some (.int .i64 N) := O.cell 0
    have q1 : w1.cell? ⟨w.heap.size, 1, none⟩ = some (.int .i64 1) := O.cell 1
    have ql := O.lt
    have hv1 := HV.out
    simp only [Int.natCast_one] at hv1
    rw [hv1]
    clear hv1
    go_wp2_with fail
    refine (HN.out _ (tabP_bel HTAB.out L1)).mono ?_
    rintro e w2 ⟨rfl, hb2⟩
    go_wp2_with fail
    go_ret
    exact ⟨ret_str HT.out.symm, bel_trans L1 hb2⟩
  · have HT := Lib.hid (show ratS N D = decS N ++ ⟨#[47]⟩ ++ decS D from if_neg h1)
    have e1 : (⟨#[47]⟩ : ByteArray).size = 1 := rfl
    have hadd1 := add_run (decS N) ⟨#[47]⟩ (by omega)
    have hadd2 := add_run (decS N ++ ⟨#[47]⟩) (decS D) (by rw [ByteArray.size_append]; omega)
    have d1 : ((D : Int) == 1) = false := by simp; omega
    generalize ratS N D = T at *
    generalize decS N = a at *
    generalize decS D = b at *
    clear zn zd hb h1 e1
    go_enter Tryd.func14, Tryd.ntmps14
    go_wp2_with fail
    refine (impl_rv _ _ _).mono ?_
    rintro e w1 ⟨rfl, hb1⟩
    have L1 := bel_trans (bel_alloc (Below.refl _ _) _) hb1
    have O := (Own.new w 27 #[.int .i64 N, .int .i64 D]).below hb1
    have q0 : w1.cell? ⟨w.heap.size, 0, none⟩ = some (.int .i64 N) := O.cell 0
    have q1 : w1.cell? ⟨w.heap.size, 1, none⟩ = some (.int .i64 D) := O.cell 1
    have ql := O.lt
    rw [HV.out]
    go_wp2_with fail
    have HT1 := Lib.hid (tabP_bel HTAB.out L1)
    clear hb1
    (refine wp_region_bel (by kernel_rfl) (by kernel_rfl) ?_; (repeat (first | go_big_quiet_skip | (go_big_quiet_want; first | (go_big_quiet_op; go_big_quiet_on) | (unfold Oper.quiet; apply Exists.intro; refine ⟨fun wx hCx => ?_, ?_⟩; (focus (obtain ⟨hcx, hfx⟩ := bcell hCx; go_simp; first | done | exact rfl | (with_reducible exact (HN.out _ (tabP_bel HT1.out hCx)).mono (fun _ _ hz => ⟨hz.1, bel_trans hCx hz.2⟩)) | (with_reducible exact (HD.out _ (tabP_bel HT1.out hCx)).mono (fun _ _ hz => ⟨hz.1, bel_trans hCx hz.2⟩)) | exact (HN.out _ (tabP_bel HT1.out hCx)).mono (fun _ _ hz => ⟨hz.1, bel_trans hCx hz.2⟩) | exact (HD.out _ (tabP_bel HT1.out hCx)).mono (fun _ _ hz => ⟨hz.1, bel_trans hCx hz.2⟩))); simp only [Act.put, List.setIfInBounds_toArray, List.set_cons_zero, List.set_cons_succ]; go_big_quiet_on)))); refine wpQuiet_nil ?_; intro wq hCq)
    go_wp2_with fail
    go_ret
    exact ⟨ret_str HT.out.symm, bel_trans L1 hCq⟩

set_option maxHeartbeats 4000000 in
theorem spec_rat (N D : Nat) (h : ratB N D = true) (w : World) : Calls Tryd.prog 11 #[.agg #[.int .i64 N, .int .i64 D]] w fun e w' => e = .returned (.string (ratS N D)) ∧ Below w.heap.size w w' := by
  have hb := ratB_true.1 h
  have HV := Lib.hid h
  have hn : N ≤ 1000000000 := by omega
  have hd : D ≤ 1000000000 := by omega
  have zn := dec10 hn
  have zd := dec10 hd
  have HN := Lib.hid (fun w => spec_dec N hn w)
  have HD := Lib.hid (fun w => spec_dec D hd w)
  skip
  skip
  clear h
  by_cases h1 : D = 1
  · subst h1
    have HT := Lib.hid (show ratS N 1 = decS N from if_pos rfl)
    generalize ratS N 1 = T at *
    generalize decS N = a at *
    clear zn zd HD hb
    go_enter Tryd.func11, Tryd.ntmps11
    go_wp2_with fail
    refine (spec_rv _ _ _).mono ?_
    rintro e w1 ⟨rfl, hb1⟩
    have L1 := bel_trans (bel_alloc (Below.refl _ _) _) hb1
    have O := (Own.new w 27 #[.int .i64 N, .int .i64 1]).below hb1
    have q0 : w1.cell? ⟨w.heap.size, 0, none⟩ = some (.int .i64 N) := O.cell 0
    have q1 : w1.cell? ⟨w.heap.size, 1, none⟩ = some (.int .i64 1) := O.cell 1
    have ql := O.lt
    have hv1 := HV.out
    simp only [Int.natCast_one] at hv1
    rw [hv1]
    clear hv1
    go_wp2_with fail
    refine (HN.out _).mono ?_
    rintro e w2 ⟨rfl, hb2⟩
    go_wp2_with fail
    go_ret
    exact ⟨ret_str HT.out.symm, bel_trans L1 hb2⟩
  · have HT := Lib.hid (show ratS N D = decS N ++ ⟨#[47]⟩ ++ decS D from if_neg h1)
    have e1 : (⟨#[47]⟩ : ByteArray).size = 1 := rfl
    have hadd1 := add_run (decS N) ⟨#[47]⟩ (by omega)
    have hadd2 := add_run (decS N ++ ⟨#[47]⟩) (decS D) (by rw [ByteArray.size_append]; omega)
    have d1 : ((D : Int) == 1) = false := by simp; omega
    generalize ratS N D = T at *
    generalize decS N = a at *
    generalize decS D = b at *
    clear zn zd hb h1 e1
    go_enter Tryd.func11, Tryd.ntmps11
    go_wp2_with fail
    refine (spec_rv _ _ _).mono ?_
    rintro e w1 ⟨rfl, hb1⟩
    have L1 := bel_trans (bel_alloc (Below.refl _ _) _) hb1
    have O := (Own.new w 27 #[.int .i64 N, .int .i64 D]).below hb1
    have q0 : w1.cell? ⟨w.heap.size, 0, none⟩ = some (.int .i64 N) := O.cell 0
    have q1 : w1.cell? ⟨w.heap.size, 1, none⟩ = some (.int .i64 D) := O.cell 1
    have ql := O.lt
    rw [HV.out]
    go_wp2_with fail
    skip
    clear hb1
    (refine wp_region_bel (by kernel_rfl) (by kernel_rfl) ?_; (repeat (first | go_big_quiet_skip | (go_big_quiet_want; first | (go_big_quiet_op; go_big_quiet_on) | (unfold Oper.quiet; apply Exists.intro; refine ⟨fun wx hCx => ?_, ?_⟩; (focus (obtain ⟨hcx, hfx⟩ := bcell hCx; go_simp; first | done | exact rfl | (with_reducible exact (HN.out _).mono (fun _ _ hz => ⟨hz.1, bel_trans hCx hz.2⟩)) | (with_reducible exact (HD.out _).mono (fun _ _ hz => ⟨hz.1, bel_trans hCx hz.2⟩)) | exact (HN.out _).mono (fun _ _ hz => ⟨hz.1, bel_trans hCx hz.2⟩) | exact (HD.out _).mono (fun _ _ hz => ⟨hz.1, bel_trans hCx hz.2⟩))); simp only [Act.put, List.setIfInBounds_toArray, List.set_cons_zero, List.set_cons_succ]; go_big_quiet_on)))); refine wpQuiet_nil ?_; intro wq hCq)
    go_wp2_with fail
    go_ret
    exact ⟨ret_str HT.out.symm, bel_trans L1 hCq⟩

set_option maxHeartbeats 4000000 in
theorem impl_rt (s n d : Int) (w : World) (hT : TabP w) : Calls Tryd.prog 7 #[.agg #[.int .i64 s, .int .i64 n, .int .i64 d]] w fun e w' => e = .returned (.string (rtS (s, n, d))) ∧ Below w.heap.size w w' := by
  have HTAB := Lib.hid hT
  clear hT
  cases hv : rtB s n d
  · have HE := Lib.hid (show rtS (s, n, d) = ByteArray.empty by unfold rtS; rw [if_neg (by simp [okR, hv])])
    have HV := Lib.hid hv
    generalize rtS (s, n, d) = T at *
    clear hv
    go_enter Tryd.func7, Tryd.ntmps7
    go_wp2_with fail
    refine (impl_rtv _ _ _ _).mono ?_
    rintro e w1 ⟨rfl, hb1⟩
    have L1 := bel_trans (bel_alloc (Below.refl _ _) _) hb1
    rw [HV.out]
    go_wp2_with fail
    go_ret
    exact ⟨ret_str HE.out.symm, L1⟩
  · have HV := Lib.hid hv
    have hb := rtB_true.1 hv
    have hr := ratB_true.1 hb.2.1
    obtain ⟨N, rfl⟩ := Int.eq_ofNat_of_zero_le (show 0 ≤ n by omega)
    obtain ⟨D, rfl⟩ := Int.eq_ofNat_of_zero_le (show 0 ≤ d by omega)
    have hN : N ≤ 1000000000 := by omega
    have hD : D ≤ 1000000000 := by omega
    have HRAT := Lib.hid (fun w => impl_rat N D hb.2.1 w)
    have zt := rat_size hN hD
    rcases (by omega : s = 0 ∨ s = 1 ∨ s = -1) with rfl | rfl | rfl
    · have HE := Lib.hid (show rtS (0, (N : Int), (D : Int)) = ⟨#[48]⟩ by unfold rtS; rw [if_pos (show okR (0, (N : Int), (D : Int)) = true from hv)]; rfl)
      generalize rtS (0, (N : Int), (D : Int)) = T at *
      clear hv hb hr zt
      go_enter Tryd.func7, Tryd.ntmps7
      go_wp2_with fail
      refine (impl_rtv _ _ _ _).mono ?_
      rintro e w1 ⟨rfl, hb1⟩
      have L1 := bel_trans (bel_alloc (Below.refl _ _) _) hb1
      have O := (Own.new w 29 #[.int .i64 (0), .int .i64 N, .int .i64 D]).below hb1
      have q0 : w1.cell? ⟨w.heap.size, 0, none⟩ = some (.int .i64 (0)) := O.cell 0
      have ql := O.lt
      rw [HV.out]
      go_wp2_with fail
      go_ret
      exact ⟨ret_str HE.out.symm, L1⟩
    · have HE := Lib.hid (show rtS (1, (N : Int), (D : Int)) = ⟨#[115, 113, 114, 116, 40]⟩ ++ ratS N D ++ ⟨#[41]⟩ by unfold rtS; rw [if_pos (show okR (1, (N : Int), (D : Int)) = true from hv)]; rfl)
      have z1 : (⟨#[41]⟩ : ByteArray).size = 1 := rfl
      have z2 : (⟨#[45]⟩ : ByteArray).size = 1 := rfl
      have z5 : (⟨#[115, 113, 114, 116, 40]⟩ : ByteArray).size = 5 := rfl
      have z6 : (⟨#[45, 115, 113, 114, 116, 40]⟩ : ByteArray).size = 6 := rfl
      have hadd1 := add_run ⟨#[115, 113, 114, 116, 40]⟩ (ratS N D) (by omega)
      have hadd2 := add_run (⟨#[115, 113, 114, 116, 40]⟩ ++ ratS N D) ⟨#[41]⟩ (by rw [ByteArray.size_append]; omega)
      generalize rtS (1, (N : Int), (D : Int)) = T at *
      generalize ratS N D = t at *
      clear hv hb hr zt z1 z2 z5 z6
      go_enter Tryd.func7, Tryd.ntmps7
      go_wp2_with fail
      refine (impl_rtv _ _ _ _).mono ?_
      rintro e w1 ⟨rfl, hb1⟩
      have L1 := bel_trans (bel_alloc (Below.refl _ _) _) hb1
      have O := (Own.new w 29 #[.int .i64 (1), .int .i64 N, .int .i64 D]).below hb1
      have q0 : w1.cell? ⟨w.heap.size, 0, none⟩ = some (.int .i64 (1)) := O.cell 0
      have q1 : w1.cell? ⟨w.heap.size, 1, none⟩ = some (.int .i64 N) := O.cell 1
      have q2 : w1.cell? ⟨w.heap.size, 2, none⟩ = some (.int .i64 D) := O.cell 2
      have ql := O.lt
      rw [HV.out]
      go_wp2_with fail
      clear hb1
      try refine (HRAT.out _ (tabP_bel HTAB.out L1)).mono ?_
      rintro e w2 ⟨rfl, hb2⟩
      have L2 := bel_trans L1 hb2
      have q3 : w2.cell? ⟨w.heap.size, 0, none⟩ = some (.int .i64 (1)) := (O.below hb2).cell 0
      go_wp2_with fail
      go_ret
      exact ⟨ret_str HE.out.symm, L2⟩
    · have HE := Lib.hid (show rtS (-1, (N : Int), (D : Int)) = ⟨#[45, 115, 113, 114, 116, 40]⟩ ++ ratS N D ++ ⟨#[41]⟩ by rw [msq]; unfold rtS; rw [if_pos (show okR (-1, (N : Int), (D : Int)) = true from hv)]; rfl)
      have z1 : (⟨#[41]⟩ : ByteArray).size = 1 := rfl
      have z2 : (⟨#[45]⟩ : ByteArray).size = 1 := rfl
      have z5 : (⟨#[115, 113, 114, 116, 40]⟩ : ByteArray).size = 5 := rfl
      have z6 : (⟨#[45, 115, 113, 114, 116, 40]⟩ : ByteArray).size = 6 := rfl
      have hadd1 := add_run ⟨#[45, 115, 113, 114, 116, 40]⟩ (ratS N D) (by omega)
      have hadd2 := add_run (⟨#[45, 115, 113, 114, 116, 40]⟩ ++ ratS N D) ⟨#[41]⟩ (by rw [ByteArray.size_append]; omega)
      generalize rtS (-1, (N : Int), (D : Int)) = T at *
      generalize ratS N D = t at *
      clear hv hb hr zt z1 z2 z5 z6
      go_enter Tryd.func7, Tryd.ntmps7
      go_wp2_with fail
      refine (impl_rtv _ _ _ _).mono ?_
      rintro e w1 ⟨rfl, hb1⟩
      have L1 := bel_trans (bel_alloc (Below.refl _ _) _) hb1
      have O := (Own.new w 29 #[.int .i64 (-1), .int .i64 N, .int .i64 D]).below hb1
      have q0 : w1.cell? ⟨w.heap.size, 0, none⟩ = some (.int .i64 (-1)) := O.cell 0
      have q1 : w1.cell? ⟨w.heap.size, 1, none⟩ = some (.int .i64 N) := O.cell 1
      have q2 : w1.cell? ⟨w.heap.size, 2, none⟩ = some (.int .i64 D) := O.cell 2
      have ql := O.lt
      rw [HV.out]
      go_wp2_with fail
      clear hb1
      try refine (HRAT.out _ (tabP_bel HTAB.out L1)).mono ?_
      rintro e w2 ⟨rfl, hb2⟩
      have L2 := bel_trans L1 hb2
      have q3 : w2.cell? ⟨w.heap.size, 0, none⟩ = some (.int .i64 (-1)) := (O.below hb2).cell 0
      go_wp2_with fail
      go_ret
      exact ⟨ret_str HE.out.symm, L2⟩

set_option maxHeartbeats 4000000 in
theorem spec_rt (s n d : Int) (w : World) : Calls Tryd.prog 5 #[.agg #[.int .i64 s, .int .i64 n, .int .i64 d]] w fun e w' => e = .returned (.string (rtS (s, n, d))) ∧ Below w.heap.size w w' := by
  skip
  skip
  cases hv : rtB s n d
  · have HE := Lib.hid (show rtS (s, n, d) = ByteArray.empty by unfold rtS; rw [if_neg (by simp [okR, hv])])
    have HV := Lib.hid hv
    generalize rtS (s, n, d) = T at *
    clear hv
    go_enter Tryd.func5, Tryd.ntmps5
    go_wp2_with fail
    refine (spec_rtv _ _ _ _).mono ?_
    rintro e w1 ⟨rfl, hb1⟩
    have L1 := bel_trans (bel_alloc (Below.refl _ _) _) hb1
    rw [HV.out]
    go_wp2_with fail
    go_ret
    exact ⟨ret_str HE.out.symm, L1⟩
  · have HV := Lib.hid hv
    have hb := rtB_true.1 hv
    have hr := ratB_true.1 hb.2.1
    obtain ⟨N, rfl⟩ := Int.eq_ofNat_of_zero_le (show 0 ≤ n by omega)
    obtain ⟨D, rfl⟩ := Int.eq_ofNat_of_zero_le (show 0 ≤ d by omega)
    have hN : N ≤ 1000000000 := by omega
    have hD : D ≤ 1000000000 := by omega
    have HRAT := Lib.hid (fun w => spec_rat N D hb.2.1 w)
    have zt := rat_size hN hD
    rcases (by omega : s = 0 ∨ s = 1 ∨ s = -1) with rfl | rfl | rfl
    · have HE := Lib.hid (show rtS (0, (N : Int), (D : Int)) = ⟨#[48]⟩ by unfold rtS; rw [if_pos (show okR (0, (N : Int), (D : Int)) = true from hv)]; rfl)
      generalize rtS (0, (N : Int), (D : Int)) = T at *
      clear hv hb hr zt
      go_enter Tryd.func5, Tryd.ntmps5
      go_wp2_with fail
      refine (spec_rtv _ _ _ _).mono ?_
      rintro e w1 ⟨rfl, hb1⟩
      have L1 := bel_trans (bel_alloc (Below.refl _ _) _) hb1
      have O := (Own.new w 29 #[.int .i64 (0), .int .i64 N, .int .i64 D]).below hb1
      have q0 : w1.cell? ⟨w.heap.size, 0, none⟩ = some (.int .i64 (0)) := O.cell 0
      have ql := O.lt
      rw [HV.out]
      go_wp2_with fail
      go_ret
      exact ⟨ret_str HE.out.symm, L1⟩
    · have HE := Lib.hid (show rtS (1, (N : Int), (D : Int)) = ⟨#[115, 113, 114, 116, 40]⟩ ++ ratS N D ++ ⟨#[41]⟩ by unfold rtS; rw [if_pos (show okR (1, (N : Int), (D : Int)) = true from hv)]; rfl)
      have z1 : (⟨#[41]⟩ : ByteArray).size = 1 := rfl
      have z2 : (⟨#[45]⟩ : ByteArray).size = 1 := rfl
      have z5 : (⟨#[115, 113, 114, 116, 40]⟩ : ByteArray).size = 5 := rfl
      have z6 : (⟨#[45, 115, 113, 114, 116, 40]⟩ : ByteArray).size = 6 := rfl
      have hadd1 := add_run ⟨#[115, 113, 114, 116, 40]⟩ (ratS N D) (by omega)
      have hadd2 := add_run (⟨#[115, 113, 114, 116, 40]⟩ ++ ratS N D) ⟨#[41]⟩ (by rw [ByteArray.size_append]; omega)
      generalize rtS (1, (N : Int), (D : Int)) = T at *
      generalize ratS N D = t at *
      clear hv hb hr zt z1 z2 z5 z6
      go_enter Tryd.func5, Tryd.ntmps5
      go_wp2_with fail
      refine (spec_rtv _ _ _ _).mono ?_
      rintro e w1 ⟨rfl, hb1⟩
      have L1 := bel_trans (bel_alloc (Below.refl _ _) _) hb1
      have O := (Own.new w 29 #[.int .i64 (1), .int .i64 N, .int .i64 D]).below hb1
      have q0 : w1.cell? ⟨w.heap.size, 0, none⟩ = some (.int .i64 (1)) := O.cell 0
      have q1 : w1.cell? ⟨w.heap.size, 1, none⟩ = some (.int .i64 N) := O.cell 1
      have q2 : w1.cell? ⟨w.heap.size, 2, none⟩ = some (.int .i64 D) := O.cell 2
      have ql := O.lt
      rw [HV.out]
      go_wp2_with fail
      clear hb1
      try refine (HRAT.out _).mono ?_
      rintro e w2 ⟨rfl, hb2⟩
      have L2 := bel_trans L1 hb2
      have q3 : w2.cell? ⟨w.heap.size, 0, none⟩ = some (.int .i64 (1)) := (O.below hb2).cell 0
      go_wp2_with fail
      go_ret
      exact ⟨ret_str HE.out.symm, L2⟩
    · have HE := Lib.hid (show rtS (-1, (N : Int), (D : Int)) = ⟨#[45]⟩ ++ (⟨#[115, 113, 114, 116, 40]⟩ ++ ratS N D ++ ⟨#[41]⟩) by unfold rtS; rw [if_pos (show okR (-1, (N : Int), (D : Int)) = true from hv)]; rfl)
      have z1 : (⟨#[41]⟩ : ByteArray).size = 1 := rfl
      have z2 : (⟨#[45]⟩ : ByteArray).size = 1 := rfl
      have z5 : (⟨#[115, 113, 114, 116, 40]⟩ : ByteArray).size = 5 := rfl
      have z6 : (⟨#[45, 115, 113, 114, 116, 40]⟩ : ByteArray).size = 6 := rfl
      have hadd1 := add_run ⟨#[115, 113, 114, 116, 40]⟩ (ratS N D) (by omega)
      have hadd2 := add_run (⟨#[115, 113, 114, 116, 40]⟩ ++ ratS N D) ⟨#[41]⟩ (by rw [ByteArray.size_append]; omega)
      have hadd3 := add_run ⟨#[45]⟩ (⟨#[115, 113, 114, 116, 40]⟩ ++ ratS N D ++ ⟨#[41]⟩) (by rw [ByteArray.size_append, ByteArray.size_append]; omega)
      generalize rtS (-1, (N : Int), (D : Int)) = T at *
      generalize ratS N D = t at *
      clear hv hb hr zt z1 z2 z5 z6
      go_enter Tryd.func5, Tryd.ntmps5
      go_wp2_with fail
      refine (spec_rtv _ _ _ _).mono ?_
      rintro e w1 ⟨rfl, hb1⟩
      have L1 := bel_trans (bel_alloc (Below.refl _ _) _) hb1
      have O := (Own.new w 29 #[.int .i64 (-1), .int .i64 N, .int .i64 D]).below hb1
      have q0 : w1.cell? ⟨w.heap.size, 0, none⟩ = some (.int .i64 (-1)) := O.cell 0
      have q1 : w1.cell? ⟨w.heap.size, 1, none⟩ = some (.int .i64 N) := O.cell 1
      have q2 : w1.cell? ⟨w.heap.size, 2, none⟩ = some (.int .i64 D) := O.cell 2
      have ql := O.lt
      rw [HV.out]
      go_wp2_with fail
      clear hb1
      try refine (HRAT.out _).mono ?_
      rintro e w2 ⟨rfl, hb2⟩
      have L2 := bel_trans L1 hb2
      have q3 : w2.cell? ⟨w.heap.size, 0, none⟩ = some (.int .i64 (-1)) := (O.below hb2).cell 0
      go_wp2_with fail
      go_ret
      exact ⟨ret_str HE.out.symm, L2⟩

end Go.Proofs.YtefddmfnjneegaaDoor
