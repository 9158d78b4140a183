/- Different roots have different texts: the law returns true for all bytes. No condition but the tables of the library that the row lists. -/
import Derived.Test.YtefddmfnjneegaaDoorRtText
import Derived.Test.YtefddmfnjneegaaDoorOpenRoot
import Derived.Test.YtefddmfnjneegaaDoorDrawRoot2
namespace Go.Proofs.YtefddmfnjneegaaDoor.fnRootText
open Go.ChangeShapes Go.WideShapes Go.ChangeAt Go.RowKit Go.Deep Go.Joins
set_option linter.unusedVariables false
set_option maxRecDepth 100000

theorem bel_three {w w9 : World} (h : Below w.heap.size w w9) (u v x : Value) : Below w.heap.size w (((w9.setCell ⟨w.heap.size, 0, none⟩ u).setCell ⟨w.heap.size, 1, none⟩ v).setCell ⟨w.heap.size, 2, none⟩ x) :=
  bel_set (bel_set (bel_set h (p := ⟨w.heap.size, 0, none⟩) (by simp) u) (p := ⟨w.heap.size, 1, none⟩) (by simp) v) (p := ⟨w.heap.size, 2, none⟩) (by simp) x
set_option maxHeartbeats 4000000 in
theorem draw_one (A : Option Addr) (n c : Nat) (w : World) (h2 : n ≤ c) (hm : c ≤ maxLen) (h5 : Bytes w w.heap.size A n) :
    Calls Tryd.prog 8 #[.slice A n c] w fun e w' => ∃ a : Rt, e = .returned (rtV a) ∧ Below w.heap.size w w' := by
  have O2 := Own.new w 29 #[.int .i64 0, .int .i64 0, .int .i64 0]
  have L0 : Below w.heap.size w (w.alloc (.cells #[.int .i64 0, .int .i64 0, .int .i64 0] 29)) := (by repeat (first | exact Below.refl _ _ | assumption | refine bel_drewN ?_ _ | refine bel_drew ?_ | refine bel_alloc ?_ _ | refine bel_set ?_ (by simp; omega) _ | refine bel_set ?_ (by simp) _ | refine bel_trans ?_ (by assumption)))
  have hby := (h5.below L0).more L0.size
  go_enter Tryd.func8, Tryd.ntmps8
  go_wp2_with fail
  generalize w.alloc (.cells #[.int .i64 0, .int .i64 0, .int .i64 0] 29) = W at *
  refine (open_any _ _ _ _ h2 hm hby).mono ?_
  rintro e w1 ⟨g, rfl, hr1, hb1⟩
  have P2 := O2.below hb1
  have hWz := L0.size
  have hgW := hr1.1
  have k2 := O2.lt
  have hne2 : w.heap.size ≠ g := by omega
  have L1 := bel_trans L0 hb1
  clear O2 hby h5
  go_wp2_with fail
  refine (l91_root _ g 0 (by omega) _ hr1).mono ?_
  rintro e w2 ⟨a, rfl, hr2, hg2⟩
  have Q2 := P2.pick hg2 hne2
  have L2 := L1.grown hg2 L1.size (fun k e => by injection e with e; omega)
  have q2 := Q2.cell
  have u2 := Q2.lt
  have v2 := Q2.frozen
  clear hg2 P2 L1 hr1 hr2
  go_wp2_with fail
  have F2 := ((Q2.set_ 0 (.int .i64 a.1)).set_ 1 (.int .i64 a.2.1)).set_ 2 (.int .i64 a.2.2)
  have qF2 := F2.cell
  exact bodyPost_ret (v := rtV a) (by simp [results, Tryd.results8, go_sem, qF2, rtV]) rfl ⟨a, rfl, bel_three L2 _ _ _⟩

/-- a root's text and its opposite's -/
theorem negT {s n d : Int} (h : okR (s, n, d) = true) : ∃ T S : ByteArray, rtS (s, n, d) = T ∧ rtS (negV (s, n, d)) = S ∧ T.size ≤ 100 ∧ S.size ≤ 100 ∧
    ((s = 0 ∧ T = ⟨#[48]⟩ ∧ S = ⟨#[48]⟩) ∨ (s = 1 ∧ 0 < T.size ∧ S = (⟨#[45]⟩ : ByteArray) ++ T) ∨ (s = -1 ∧ 0 < S.size ∧ T = (⟨#[45]⟩ : ByteArray) ++ S)) := by
  have hb := okR_true.1 h
  have hn := neg_ok h
  have hng : negV (s, n, d) = (-s, n, d) := by unfold negV; rw [if_pos h]
  rw [hng] at hn ⊢
  simp only at hb
  have hr := ratB_true.1 hb.2.1
  obtain ⟨N, rfl⟩ := Int.eq_ofNat_of_zero_le (show 0 ≤ n by omega)
  obtain ⟨D, rfl⟩ := Int.eq_ofNat_of_zero_le (show 0 ≤ d by omega)
  have zt := rat_size (n := N) (d := D) (by omega) (by omega)
  have z1 : (⟨#[41]⟩ : ByteArray).size = 1 := rfl
  have z2 : (⟨#[45]⟩ : ByteArray).size = 1 := rfl
  have z5 : (⟨#[115, 113, 114, 116, 40]⟩ : ByteArray).size = 5 := rfl
  have zX : (⟨#[115, 113, 114, 116, 40]⟩ ++ ratS N D ++ ⟨#[41]⟩ : ByteArray).size = 6 + (ratS N D).size := by rw [ByteArray.size_append, ByteArray.size_append]; omega
  have zY : (⟨#[45]⟩ ++ (⟨#[115, 113, 114, 116, 40]⟩ ++ ratS N D ++ ⟨#[41]⟩) : ByteArray).size = 7 + (ratS N D).size := by rw [ByteArray.size_append, zX]; omega
  rcases (by omega : s = 0 ∨ s = 1 ∨ s = -1) with rfl | rfl | rfl
  · have e1 : rtS (0, (N : Int), (D : Int)) = ⟨#[48]⟩ := by unfold rtS; rw [if_pos h]; rfl
    have e2 : rtS (-0, (N : Int), (D : Int)) = ⟨#[48]⟩ := by unfold rtS; rw [if_pos hn]; rfl
    exact ⟨_, _, e1, e2, by decide, by decide, .inl ⟨rfl, rfl, rfl⟩⟩
  · have e1 : rtS (1, (N : Int), (D : Int)) = ⟨#[115, 113, 114, 116, 40]⟩ ++ ratS N D ++ ⟨#[41]⟩ := by unfold rtS; rw [if_pos h]; rfl
    have e2 : rtS (-1, (N : Int), (D : Int)) = ⟨#[45]⟩ ++ (⟨#[115, 113, 114, 116, 40]⟩ ++ ratS N D ++ ⟨#[41]⟩) := by unfold rtS; rw [if_pos hn]; rfl
    exact ⟨_, _, e1, e2, by omega, by omega, .inr (.inl ⟨rfl, by omega, rfl⟩)⟩
  · have e1 : rtS (-1, (N : Int), (D : Int)) = ⟨#[45]⟩ ++ (⟨#[115, 113, 114, 116, 40]⟩ ++ ratS N D ++ ⟨#[41]⟩) := by unfold rtS; rw [if_pos h]; rfl
    have e2 : rtS (- -1, (N : Int), (D : Int)) = ⟨#[115, 113, 114, 116, 40]⟩ ++ ratS N D ++ ⟨#[41]⟩ := by unfold rtS; rw [if_pos hn]; rfl
    exact ⟨_, _, e1, e2, by omega, by omega, .inr (.inr ⟨rfl, by omega, rfl⟩)⟩

theorem not_empty {T : ByteArray} (h : 0 < T.size) : T.toList.isEmpty = false := by
  rw [ByteArray.toList_eq]
  cases e : T.data.toList with
  | nil =>
    have h2 : T.size = T.data.toList.length := rfl
    rw [e] at h2
    rw [h2] at h
    exact absurd h (by decide)
  | cons _ _ => rfl
theorem not_same {S T : ByteArray} (h : S.size ≠ T.size) : (S.toList == T.toList) = false := by
  rw [ByteArray.toList_eq, ByteArray.toList_eq, beq_eq_false_iff_ne]
  intro e
  exact h (congrArg List.length e)
set_option maxHeartbeats 4000000 in
theorem walk (A0 : Option Addr) (n0 c0 : Nat) (W : World) (hnc : n0 ≤ c0) (hcm : c0 ≤ maxLen) (hb : Bytes W W.heap.size A0 n0) (hT : TabP W) :
    Calls Tryd.prog 4 #[.slice A0 n0 c0] W fun e W' => e = .returned (.bool true) ∧ Below W.heap.size W W' := by
  have HT := Lib.hid hT
  clear hT
  have hcm' := hcm
  unfold maxLen at hcm'
  by_cases hn : 1048576 < n0
  · go_enter Tryd.func4, Tryd.ntmps4
    go_wp2_with fail
    go_ret
    exact ⟨rfl, (by repeat (first | exact Below.refl _ _ | assumption | refine bel_drewN ?_ _ | refine bel_drew ?_ | refine bel_alloc ?_ _ | refine bel_set ?_ (by simp; omega) _ | refine bel_set ?_ (by simp) _ | refine bel_trans ?_ (by assumption)))⟩
  · go_enter Tryd.func4, Tryd.ntmps4
    go_wp2_with fail
    refine (draw_one _ _ _ _ hnc hcm hb).mono ?_
    rintro e w1 ⟨⟨s, n, d⟩, rfl, L1⟩
    clear hb
    dsimp only [rtV]
    have O1 := Own.new w1 29 #[.int .i64 s, .int .i64 n, .int .i64 d]
    have L2 := bel_alloc L1 (.cells #[.int .i64 s, .int .i64 n, .int .i64 d] 29)
    have HI := Lib.hid (fun w => impl_rt s n d w)
    have HS := Lib.hid (fun w => spec_rt s n d w)
    have HN := Lib.hid (fun w => impl_neg (s, n, d) w)
    go_wp2_with fail
    refine (HI.out _ (tabP_bel HT.out L2)).mono ?_
    rintro e w2 ⟨rfl, hb2⟩
    have L3 := bel_trans L2 hb2
    have O2 := O1.below hb2
    have q := O2.cell
    have ql := O2.lt
    clear O1 hb2
    go_wp2_with fail
    refine (HS.out _).mono ?_
    rintro e w3 ⟨rfl, hb3⟩
    have L4 := bel_trans L3 hb3
    have O3 := O2.below hb3
    clear O2 q ql hb3
    have q := O3.cell
    have ql := O3.lt
    cases hv : okR (s, n, d)
    · have HE : rtS (s, n, d) = ByteArray.empty := by unfold rtS; rw [if_neg (by simp [hv])]
      rw [HE]
      clear HE hv
      go_wp2_with fail
      go_ret
      exact ⟨rfl, L4⟩
    · obtain ⟨T, S, hT1, hS1, zT, zS, hc⟩ := negT hv
      rw [hT1]
      have hng : negV (s, n, d) = (-s, n, d) := by unfold negV; rw [if_pos hv]
      rw [hng] at hS1
      have HN2 := Lib.hid (fun w => impl_rt (-s) n d w)
      rw [hS1] at HN2
      rw [hv, hng] at HN
      clear hT1 hS1 hv HI HS hng
      have X4 := fun (p : World) => (Own.new p 29 #[.int .i64 (-s), .int .i64 n, .int .i64 d])
      rcases hc with ⟨rfl, rfl, rfl⟩ | ⟨rfl, hp, rfl⟩ | ⟨rfl, hp, rfl⟩
      · go_wp2_with fail
        refine (HN.out _).mono ?_
        rintro e w4 ⟨rfl, hb4⟩
        have L5 := bel_trans L4 hb4
        have O4 := O3.below hb4
        have L6 := bel_alloc L5 (.cells #[.int .i64 (-0), .int .i64 n, .int .i64 d] 29)
        have O5 := O4.alloc (.cells #[.int .i64 (-0), .int .i64 n, .int .i64 d] 29)
        clear X4 hb4 q ql O3
        go_wp2_with fail
        refine (HN2.out _ (tabP_bel HT.out L6)).mono ?_
        rintro e w5 ⟨rfl, hb5⟩
        have L7 := bel_trans L6 hb5
        have O6 := O5.below hb5
        have q := O6.cell
        have ql := O6.lt
        go_wp2_with fail
        go_ret
        exact ⟨rfl, L7⟩
      · have hne := not_empty hp
        go_wp2_with fail
        refine (HN.out _).mono ?_
        rintro e w4 ⟨rfl, hb4⟩
        have L5 := bel_trans L4 hb4
        have O4 := O3.below hb4
        have L6 := bel_alloc L5 (.cells #[.int .i64 (-1), .int .i64 n, .int .i64 d] 29)
        have O5 := O4.alloc (.cells #[.int .i64 (-1), .int .i64 n, .int .i64 d] 29)
        clear X4 hb4 q ql O3
        go_wp2_with fail
        refine (HN2.out _ (tabP_bel HT.out L6)).mono ?_
        rintro e w5 ⟨rfl, hb5⟩
        have L7 := bel_trans L6 hb5
        have O6 := O5.below hb5
        have q := O6.cell
        have ql := O6.lt
        have hadd := add_run ⟨#[45]⟩ T (by rw [show (⟨#[45]⟩ : ByteArray).size = 1 from rfl]; omega)
        go_wp2_with fail
        go_ret
        exact ⟨rfl, L7⟩
      · have hne := not_empty (T := (⟨#[45]⟩ : ByteArray) ++ S) (by rw [ByteArray.size_append]; omega)
        have hne2 := not_same (S := S) (T := (⟨#[45]⟩ : ByteArray) ++ ((⟨#[45]⟩ : ByteArray) ++ S)) (by rw [ByteArray.size_append, ByteArray.size_append, show (⟨#[45]⟩ : ByteArray).size = 1 from rfl]; omega)
        have hadd := add_run ⟨#[45]⟩ ((⟨#[45]⟩ : ByteArray) ++ S) (by rw [show (⟨#[45]⟩ : ByteArray).size = 1 from rfl]; omega)
        have hadd2 := add_run ⟨#[45]⟩ S (by rw [show (⟨#[45]⟩ : ByteArray).size = 1 from rfl]; omega)
        go_wp2_with fail
        refine (HN.out _).mono ?_
        rintro e w4 ⟨rfl, hb4⟩
        have L5 := bel_trans L4 hb4
        have O4 := O3.below hb4
        have L6 := bel_alloc L5 (.cells #[.int .i64 (- -1), .int .i64 n, .int .i64 d] 29)
        have O5 := O4.alloc (.cells #[.int .i64 (- -1), .int .i64 n, .int .i64 d] 29)
        clear X4 hb4 q ql O3
        go_wp2_with fail
        refine (HN2.out _ (tabP_bel HT.out L6)).mono ?_
        rintro e w5 ⟨rfl, hb5⟩
        have L7 := bel_trans L6 hb5
        have O6 := O5.below hb5
        have q := O6.cell
        have ql := O6.lt
        go_wp2_with fail
        go_ret
        exact ⟨rfl, L7⟩

set_option maxRecDepth 100000 in
theorem lifted (os : Os) (started : os.Started) (H : Type) (enc : TypeId × Value → H) :
    ReturnsInHanded {} Tryd.checked os 4 .any (fun w args => (Rows.fnRootTextSpec.pre enc Tryd.prog Tryd.f4 [] false w args ∧ laidMetH Tryd.prog laidL w) ∧ sizedMet enc Tryd.prog Tryd.f4 (OpenSpec.ofChange Rows.fnRootTextSpec) false w args)
      (Rows.fnRootTextSpec.post enc Tryd.prog Tryd.f4 false true false false) := by
  refine returnsInHanded_of_change_and (C := Tryd.checked) (X := fun w _ => laidMetH Tryd.prog laidL w) (fun _ _ _ hh h => h.of_heap hh) own started (by kernel_rfl) Tryd.func4
    (ChangeSpec.witness_shaped (enc := enc) (C := Tryd.checked) (os := os) (X := fun w _ => laidMetH Tryd.prog laidL w) false (World.doorLaid Tryd.prog 400 os) #[.slice none 0 0] 8 rfl (World.shaped_of_RefB (by kernel_rfl) (by kernel_rfl)) (by kernel_rfl) (by kernel_rfl) (by kernel_rfl) (door_met os _)) ?_
  intro W base args ds gs before hval0 hW _ _ hL _
  have hval : ∀ (j : Nat) t v, Tryd.f4.params[j]? = some t → args[j]? = some v → Value.okWide Tryd.prog W .any base t v := hval0
  have hW' := hW
  have hlt := hW.lt
  obtain ⟨p, q, hA0, hV, rfl, hfz, hnd⟩ := hW
  have hA : DataW.TrodAll enc Tryd.prog W 0 (fun _ => true) true Tryd.f4.params.toList args.toList ds p := hA0
  rw [Tryd.params4] at hA hval
  obtain ⟨v0, vs0, d0, ds0, p0, q0, hargs, rfl, rfl, h0, r0⟩ := trodAll_cons hA
  obtain ⟨rfl, rfl, rfl⟩ := trodAll_nil r0
  obtain rfl : args = #[v0] := by cases args; simp_all
  obtain ⟨rfl, rfl⟩ := trodVars_none hV
  clear hA0 hval0 hA hfz hnd
  obtain ⟨a0, n0, c0, rfl, hnc0, hcm0, hb0⟩ := open_bytes Tryd.underlying32 Tryd.underlying5 (by kernel_rfl) (hval 0 32 v0 rfl rfl) h0 (fun x hx => hlt x (by simp [hx]))
  exact law_close laidOut (by kernel_rfl) rfl Tryd.underlying4 rfl rfl hW' (walk a0 n0 c0 W hnc0 hcm0 hb0 (tab_of_laid hL))

theorem over : Rows.fnRootTextRow.holds Tryd.pinned (OpenSpec.ofChange Rows.fnRootTextSpec) :=
  OpenClaim.holds_of_wide 4 Tryd.f4 rfl rfl rfl rfl rfl rfl rfl ⟨rfl, rfl, rfl, rfl, rfl⟩ rfl rfl rfl rfl rfl (by kernel_rfl) Tryd.func4 (by kernel_rfl)
    (of_decide_eq_true (by kernel_rfl)) (by unfold Func.isWrapper; first | (rw [if_pos (by decide +kernel)]; kernel_rfl) | (rw [if_neg (by decide +kernel)]; exact ⟨rfl, rfl⟩))
    (fun os started H enc _ => lifted os started H enc)

theorem proved : Rows.FnRootTextCardSaid :=
  Claim7.holds_tied_plain_at .later [] [.data, .data, .data] true (true, "62c303df8f6247dc743a00239116ec8e906292d6f9a1d3d77de2c78033d29d9a") false
    over (fun _ h => by cases h) (by kernel_rfl) (fun _ h => by cases h) fnRootText_row_tie rfl ⟨rfl, rfl⟩ (by kernel_rfl) rfl
    (fun f fn hf hfn => by
      obtain rfl : f = 4 := Option.some.inj ((show Tryd.prog.funcNamed "loop.example/atomicspectra/laws.FnRootText" = some 4 by kernel_rfl).symm.trans hf) |>.symm
      obtain rfl : fn = Tryd.f4 := (Option.some.inj (Tryd.func4.symm.trans hfn)).symm
      exact ⟨by kernel_rfl, fun j t ht => by
        rw [Tryd.params4] at ht
        have hm : t ∈ [32] := by simpa using Array.mem_of_getElem? ht
        have hall : ([32].all fun u => !Tryd.prog.wantsStandIn u) = true := by kernel_rfl
        exact (show Tryd.prog.wantsStandIn t = false by simpa using List.all_eq_true.1 hall t hm)⟩)
    (by kernel_rfl)
end Go.Proofs.YtefddmfnjneegaaDoor.fnRootText
