/- ConfigMove of the program and of the reference return the same in memory of its own, for all arguments. No condition. -/
import Derived.Test.YtgemocbpfbdnmaaImplMove
import Derived.Test.YtgemocbpfbdnmaaLaws7
import Derived.Test.YtgemocbpfbdnmaaOpenShells
namespace Go.Proofs.Ytgemocbpfbdnmaa.fnExactConfigMove
open Go.ChangeShapes Go.WideShapes Go.ChangeAt Go.RowKit Go.Deep Go.Joins
set_option linter.unusedVariables false
set_option maxRecDepth 100000

theorem row_own {w : World} {g B : Nat} {l : List Sh} (h : Row w g l) (hB : B ≤ g) (hl : l.length ≤ maxLen) : OwnSh w B (.slice (some ⟨g, 0, none⟩) l.length l.length) l :=
  ⟨flat_length l, .inr ⟨g, l.length, (flat l).toArray, rfl, hB, h, Nat.le_refl _, hl, by simp [flat_length], by
    rw [List.take_of_length_le (by simp [flat_length])]⟩⟩

/-- a configuration is short -/
theorem cfg_len {c : List Sh} (h : cfgB c = true) : c.length ≤ 40 := by
  have hs := cfg_sorted h
  unfold SortedL at hs
  rw [List.pairwise_iff_getElem] at hs
  have hb : ∀ i, (hi : i < c.length) → 1 ≤ c[i].1 ∧ c[i].1 ≤ 7 ∧ 0 ≤ c[i].2.1 ∧ c[i].2.1 ≤ 3 := fun i hi => by
    have := okSh_bd (cfg_mem h (List.getElem_mem hi)); omega
  have hi : ∀ i, (hi : i < c.length) → (i : Int) ≤ 4 * c[i].1 + c[i].2.1 := by
    intro i
    induction i with
    | zero => intro hi; have := hb 0 hi; omega
    | succ i ih =>
      intro hi
      have h1 := ih (by omega)
      have h2 := hs i (i + 1) (by omega) hi (by omega)
      have h3 := hb i (by omega)
      have h4 := hb (i + 1) hi
      simp [lessB] at h2
      omega
  by_cases h0 : c.length = 0
  · omega
  · have h1 := hi (c.length - 1) (by omega)
    have h2 := hb (c.length - 1) (by omega)
    omega
theorem move_len {c r : List Sh} {n l k m : Int} {b : Bool} (h : MoveR c n l k m r b) : r.length ≤ 40 := by
  rcases h with ⟨_, _, _, _, _, h5⟩ | ⟨_, rfl, _⟩
  · exact cfg_len h5
  · simp

set_option maxHeartbeats 4000000 in
theorem walk (a : Option Addr) (n0 c0 : Nat) (c : List Sh) (n l k m : Int) (W : World) (hnc : n0 ≤ c0) (hcm : c0 ≤ maxLen) (hs : n0 = c.length ∧ ShAt W W.heap.size (.slice a n0 c0) c)
    (hbn : -9223372036854775808 ≤ n ∧ n ≤ 9223372036854775807) (hbl : -9223372036854775808 ≤ l ∧ l ≤ 9223372036854775807) (hbk : -9223372036854775808 ≤ k ∧ k ≤ 9223372036854775807) (hbm : -9223372036854775808 ≤ m ∧ m ≤ 9223372036854775807) :
    Calls Try.prog 10 #[.slice a n0 c0, .int .i64 n, .int .i64 l, .int .i64 k, .int .i64 m] W fun e W' => e = .returned (.bool true) ∧ Below W.heap.size W W' := by
  obtain ⟨rfl, hs⟩ := hs
  have HK1 := Lib.hid (show okKey (n, l) from ⟨hbn.1, hbn.2, hbl.1, hbl.2⟩)
  have HK2 := Lib.hid (show okKey (k, m) from ⟨hbk.1, hbk.2, hbm.1, hbm.2⟩)
  clear hbn hbl hbk hbm
  by_cases hn : 1048576 < c.length
  · have HS := Lib.hid (if_pos hn : (if 1048576 < c.length then (-1 : Int) else 1048576 - c.length) = -1)
    go_enter Try.func10, Try.ntmps10
    go_wp2_with fail
    refine (sz_shells _ _ _ _ _ rfl hnc hcm).mono ?_
    rintro e w' ⟨rfl, rfl⟩
    rw [HS.out]
    go_wp2_with fail
    go_ret
    exact ⟨rfl, (by repeat (first | exact Below.refl _ _ | assumption | refine bel_drewN ?_ _ | refine bel_drew ?_ | refine bel_alloc ?_ _ | refine bel_set ?_ (by simp; omega) _ | refine bel_set ?_ (by simp) _ | refine bel_trans ?_ (by assumption)))⟩
  · have HS := Lib.hid (if_neg hn : (if 1048576 < c.length then (-1 : Int) else 1048576 - c.length) = 1048576 - c.length)
    have hm : c.length ≤ maxLen := by unfold maxLen; omega
    have HM := Lib.hid hm
    clear hm
    go_enter Try.func10, Try.ntmps10
    go_wp2_with fail
    refine (sz_shells _ _ _ _ _ rfl hnc hcm).mono ?_
    rintro e w' ⟨rfl, rfl⟩
    rw [HS.out]
    go_wp2_with fail
    refine (to_shells _ c _ hs (by omega)).mono ?_
    rintro e w1 ⟨rfl, R1, hb1⟩
    go_wp2_with fail
    refine (spec_move _ c n l k m _ W.heap.size (row_own R1 (Nat.le_refl _) HM.out) (by omega)).mono ?_
    rintro e w2 ⟨v0, r, b, rfl, P2, hb2, hR, hrl⟩
    have HR := Lib.hid hR
    have hrl := move_len hR
    have L2 := bel_trans hb1 hb2
    have hz1 := hb1.size
    have hz2 := hb2.size
    have B2 := blk P2
    clear hb1 hb2 R1 hR
    go_wp2_with fail
    refine (to_shells _ c _ (hs.below L2 |>.more L2.size) (by omega)).mono ?_
    rintro e w3 ⟨rfl, R3, hb3⟩
    have L3 := bel_trans L2 hb3
    have P3 := P2.below hb3
    have hz3 := R3.lt
    clear hb3 L2 P2
    go_wp2_with fail
    refine (impl_move _ c n l k m _ w2.heap.size (row_own R3 (Nat.le_refl _) HM.out) (by omega) (fun _ => HK1.out) HK2.out).mono ?_
    rintro e w4 ⟨v1, r', b', rfl, Q4, hb4, hR', _⟩
    obtain ⟨e1, e2⟩ := HR.out.uniq hR'
    subst e1 e2
    have R4 := R3.below hb4
    have P4 := P3.below hb4
    have L4 := bel_trans L3 hb4
    have hz4 := hb4.size
    clear R3 hb4 L3 P3 hR'
    cases b
    all_goals
      go_wp2_with fail
      refine (eq_shells _ _ r _ Q4.at_ P4.at_).mono ?_
      rintro e w5 ⟨rfl, hb5⟩
      have R5 := R4.below hb5
      have P5 := P4.below hb5
      have Q5 := Q4.below hb5
      have L5 := bel_trans L4 hb5
      clear R4 P4 Q4 L4 hb5
      go_wp2_with fail
      refine (to_shells _ c _ (hs.below L5 |>.more L5.size) (by omega)).mono ?_
      rintro e w6 ⟨rfl, S6, hb6⟩
      have R6 := R5.below hb6
      have P6 := P5.below hb6
      have Q6 := Q5.below hb6
      have L6 := bel_trans L5 hb6
      clear R5 P5 Q5 L5 hb6
      go_wp2_with fail
      refine (eq_shells _ _ c _ (R6.at_ R6.lt HM.out) (S6.at_ S6.lt HM.out)).mono ?_
      rintro e w7 ⟨rfl, hb7⟩
      have R7 := R6.below hb7
      have P7 := P6.below hb7
      have Q7 := Q6.below hb7
      have L7 := bel_trans L6 hb7
      clear R6 P6 Q6 L6 hb7 S6
      go_wp2_with fail
      refine (mark_shells _ c.length _ _ (R7.free HM.out) (by omega)).mono ?_
      rintro e w8 ⟨rfl, hg8, _⟩
      have P8 := P7.kept hg8 (ne_blk fun k hk e => by have := B2 k hk; injection e; omega)
      have Q8 := Q7.kept hg8 (ne_blk fun k hk e => by have := (blk Q7) k hk; injection e; omega)
      have L8 := L7.grown hg8 L7.size (fun k e => by injection e; omega)
      clear R7 P7 Q7 L7 hg8
      go_wp2_with fail
      refine (eq_shells _ _ r _ Q8.at_ P8.at_).mono ?_
      rintro e w9 ⟨rfl, hb9⟩
      have P9 := P8.below hb9
      have Q9 := Q8.below hb9
      have L9 := bel_trans L8 hb9
      clear P8 Q8 L8 hb9
      go_wp2_with fail
      refine (mark_shells _ _ _ _ (toFree Q9) (by omega)).mono ?_
      rintro e w10 ⟨rfl, hg10, M10⟩
      have hz10 := hg10.size
      have P10 := P9.kept hg10 (ne_blk fun k hk e => by have := B2 k hk; have := (blk Q9) k e; omega)
      have L10 := L9.grown hg10 L9.size (fun k e => by have := (blk Q9) k e; omega)
      have M10 := M10.more hz10
      clear P9 Q9 L9 hg10 hz10
      go_wp2_with fail
      refine (held_shells _ _ _ M10 (by omega)).mono ?_
      rintro e w' ⟨rfl, rfl⟩
      go_wp2_with fail
      refine (to_shells _ c _ (hs.below L10 |>.more L10.size) (by omega)).mono ?_
      rintro e w11 ⟨rfl, R11, hb11⟩
      have P11 := P10.below hb11
      have M11 := M10.bel hb11
      have L11 := bel_trans L10 hb11
      clear P10 M10 L10 hb11
      go_wp2_with fail
      refine (impl_move _ c n l k m _ w10.heap.size (row_own R11 (Nat.le_refl _) HM.out) (by omega) (fun _ => HK1.out) HK2.out).mono ?_
      rintro e w12 ⟨v2, r2, b2, rfl, Q12, hb12, hR2, _⟩
      obtain ⟨e1, e2⟩ := HR.out.uniq hR2
      subst e1 e2
      have P12 := P11.below hb12
      have M12 := M11.bel hb12
      have L12 := bel_trans L11 hb12
      clear P11 M11 L11 hb12 R11 hR2
      go_wp2_with fail
      refine (eq_shells _ _ r _ Q12.at_ P12.at_).mono ?_
      rintro e w13 ⟨rfl, hb13⟩
      have M13 := M12.bel hb13
      have L13 := bel_trans L12 hb13
      clear P12 M12 L12 hb13 Q12
      go_wp2_with fail
      refine (held_shells _ _ _ M13 (by omega)).mono ?_
      rintro e w' ⟨rfl, rfl⟩
      go_wp2_with fail
      go_ret
      exact ⟨rfl, L13⟩

set_option maxRecDepth 100000 in
theorem lifted (os : Os) (started : os.Started) (H : Type) (enc : TypeId × Value → H) :
    ReturnsInHanded {} Try.checked os 10 .any (Rows.fnExactConfigMoveSpec.pre6 enc Try.prog Try.f10 Rows.fnExactConfigMoveRow.domain false) (Rows.fnExactConfigMoveSpec.post enc Try.prog Try.f10 false true false false) := by
  refine returnsInHanded_of_change (C := Try.checked) own started (by kernel_rfl) Try.func10
    (ChangeSpec.witness6 (enc := enc) (C := Try.checked) false ⟨#[], #[.slice none 0 0, .int .i64 0, .int .i64 0, .int .i64 0, .int .i64 0], []⟩ 8 (by kernel_rfl) (by kernel_rfl) (by kernel_rfl) (by kernel_rfl)) ?_
  intro W base args ds gs before hval0 hW hcnd _
  have hval : ∀ (j : Nat) t v, Try.f10.params[j]? = some t → args[j]? = some v → Value.okWide Try.prog W .any base t v := hval0
  have hW' := hW
  have hlt := hW.lt
  obtain ⟨p, q, hA0, hV, rfl, hfz, hnd⟩ := hW
  have hA : DataW.TrodAll enc Try.prog W 0 (fun _ => true) true Try.f10.params.toList args.toList ds p := hA0
  rw [Try.params10] at hA hval
  obtain ⟨v0, vs0, d0, ds0, p0, q0, hargs, rfl, rfl, h0, r0⟩ := trodAll_cons hA
  obtain ⟨v1, vs1, d1, ds1, p1, q1, rfl, rfl, rfl, h1, r1⟩ := trodAll_cons r0
  obtain ⟨v2, vs2, d2, ds2, p2, q2, rfl, rfl, rfl, h2, r2⟩ := trodAll_cons r1
  obtain ⟨v3, vs3, d3, ds3, p3, q3, rfl, rfl, rfl, h3, r3⟩ := trodAll_cons r2
  obtain ⟨v4, vs4, d4, ds4, p4, q4, rfl, rfl, rfl, h4, r4⟩ := trodAll_cons r3
  obtain ⟨rfl, rfl, rfl⟩ := trodAll_nil r4
  obtain rfl : args = #[v0, v1, v2, v3, v4] := by cases args; simp_all
  obtain ⟨rfl, rfl⟩ := trodVars_none hV
  clear hA0 hval0 hA hfz hnd
  obtain ⟨a0, n0, c0, l0, rfl, hnc0, hcm0, hs0⟩ := open_shells (hval 0 42 v0 rfl rfl) h0 (fun x hx => hlt x (by simp [hx]))
  obtain ⟨a1, rfl, rfl, rfl, w1⟩ := open_int Try.underlying3 (hval 1 3 v1 rfl rfl) h1
  have b1 := int_bounds w1
  obtain ⟨a2, rfl, rfl, rfl, w2⟩ := open_int Try.underlying3 (hval 2 3 v2 rfl rfl) h2
  have b2 := int_bounds w2
  obtain ⟨a3, rfl, rfl, rfl, w3⟩ := open_int Try.underlying3 (hval 3 3 v3 rfl rfl) h3
  have b3 := int_bounds w3
  obtain ⟨a4, rfl, rfl, rfl, w4⟩ := open_int Try.underlying3 (hval 4 3 v4 rfl rfl) h4
  have b4 := int_bounds w4
  exact law_close laidOut (by kernel_rfl) rfl Try.underlying4 rfl rfl hW' (walk a0 n0 c0 l0 a1 a2 a3 a4 W hnc0 hcm0 hs0 b1 b2 b3 b4)

theorem over : Rows.fnExactConfigMoveRow.holds Try.pinned (OpenSpec.ofChange Rows.fnExactConfigMoveSpec) :=
  OpenClaim.holds_of_wide 10 Try.f10 rfl rfl rfl rfl rfl rfl rfl ⟨rfl, rfl, rfl, rfl, rfl⟩ rfl rfl rfl rfl rfl (by kernel_rfl) Try.func10 (by kernel_rfl)
    (of_decide_eq_true (by kernel_rfl)) (by unfold Func.isWrapper; first | (rw [if_pos (by decide +kernel)]; kernel_rfl) | (rw [if_neg (by decide +kernel)]; exact ⟨rfl, rfl⟩))
    (fun os started H enc _ => lifted os started H enc)

theorem proved : Rows.FnExactConfigMoveSaid := over

end Go.Proofs.Ytgemocbpfbdnmaa.fnExactConfigMove
