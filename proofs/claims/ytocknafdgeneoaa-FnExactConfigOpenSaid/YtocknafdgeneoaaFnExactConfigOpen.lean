/- ConfigOpen of the program and of the reference return the same in memory of its own, for all arguments. No condition. -/
import Derived.Test.YtocknafdgeneoaaConfigOpen
import Derived.Test.YtocknafdgeneoaaRows3
import Derived.Test.YtocknafdgeneoaaOpenShells
namespace Go.Proofs.Ytocknafdgeneoaa.fnExactConfigOpen
open Go.ChangeShapes Go.WideShapes Go.ChangeAt Go.RowKit Go.Deep Go.Joins
set_option linter.unusedVariables false

theorem openL_le (l : List Sh) : (openL l).length ≤ l.length := by
  unfold openL
  split
  · exact openUp_le l _
  · simp
theorem toFree {w : World} {B : Nat} {v : Value} {l : List Sh} (h : OwnSh w B v l) : Free w v l.length v.ownBlock := by
  rcases h.free with h | ⟨g, cap, cur, hg, hB, hv, h1, h2, h3, h4⟩
  · exact .inl h
  · exact .inr ⟨g, cap, cur, hg, hv, h1, h2, h3, h4⟩
theorem blk {w : World} {B : Nat} {v : Value} {l : List Sh} (h : OwnSh w B v l) : ∀ k, v.ownBlock = some k → B ≤ k ∧ k < w.heap.size := World.ownsRow.lt h
theorem ne_blk {v : Value} {row : Option Nat} (h : ∀ k, v.ownBlock = some k → row ≠ some k) : v.ownBlock = none ∨ v.ownBlock ≠ row := by
  cases e : v.ownBlock with
  | none => exact .inl rfl
  | some k => exact .inr fun e' => h k e e'.symm

set_option maxHeartbeats 2000000 in
theorem walk (a : Option Addr) (n c : Nat) (l : List Sh) (W : World) (hnc : n ≤ c) (hcm : c ≤ maxLen) (hs : n = l.length ∧ ShAt W W.heap.size (.slice a n c) l) :
    Calls Try.prog 10 #[.slice a n c] W fun e W' => e = .returned (.bool true) ∧ Below W.heap.size W W' := by
  obtain ⟨rfl, hs⟩ := hs
  by_cases hn : 1048576 < l.length
  · have HS := Lib.hid (if_pos hn : (if 1048576 < l.length then (-1 : Int) else 1048576 - l.length) = -1)
    go_enter Try.func10, Try.ntmps10
    go_wp2_with fail
    refine (sz_shells _ _ _ _ _ rfl hnc hcm).mono ?_
    rintro e w' ⟨rfl, rfl⟩
    rw [HS.out]
    go_wp2_with fail
    go_ret
    exact ⟨rfl, (by repeat (first | exact Below.refl _ _ | assumption | refine bel_drewN ?_ _ | refine bel_drew ?_ | refine bel_alloc ?_ _ | refine bel_set ?_ (by simp; omega) _ | refine bel_set ?_ (by simp) _ | refine bel_trans ?_ (by assumption)))⟩
  · have HS := Lib.hid (if_neg hn : (if 1048576 < l.length then (-1 : Int) else 1048576 - l.length) = 1048576 - l.length)
    have hm : l.length ≤ maxLen := by unfold maxLen; omega
    have HM := Lib.hid hm
    clear hm
    have hol := openL_le l
    have HO := Lib.hid hol
    go_enter Try.func10, Try.ntmps10
    go_wp2_with fail
    refine (sz_shells _ _ _ _ _ rfl hnc hcm).mono ?_
    rintro e w' ⟨rfl, rfl⟩
    rw [HS.out]
    go_wp2_with fail
    refine (to_shells _ l _ hs (by omega)).mono ?_
    rintro e w1 ⟨rfl, R1, hb1⟩
    go_wp2_with fail
    refine (spec_open _ l _ (R1.at_ (R1.lt) HM.out) (by omega)).mono ?_
    rintro e w2 ⟨v0, rfl, P2, hb2⟩
    have L2 := bel_trans hb1 hb2
    have hz1 := hb1.size
    have hz2 := hb2.size
    have B2 := blk P2
    clear hb1 hb2 R1
    go_wp2_with fail
    refine (to_shells _ l _ (hs.below L2 |>.more L2.size) (by omega)).mono ?_
    rintro e w3 ⟨rfl, R3, hb3⟩
    have L3 := bel_trans L2 hb3
    have P3 := P2.below hb3
    have hz3 := R3.lt
    clear hb3 L2 P2
    go_wp2_with fail
    refine (impl_open _ l _ (R3.at_ (R3.lt) HM.out) (by omega)).mono ?_
    rintro e w4 ⟨v1, rfl, Q4, hb4⟩
    have R4 := R3.below hb4
    have P4 := P3.below hb4
    have L4 := bel_trans L3 hb4
    have hz4 := hb4.size
    clear R3 hb4 L3 P3
    go_wp2_with fail
    refine (eq_shells _ _ (openL l) _ Q4.at_ P4.at_).mono ?_
    rintro e w5 ⟨rfl, hb5⟩
    have R5 := R4.below hb5
    have P5 := P4.below hb5
    have Q5 := Q4.below hb5
    have L5 := bel_trans L4 hb5
    clear R4 P4 Q4 L4 hb5
    go_wp2_with fail
    refine (to_shells _ l _ (hs.below L5 |>.more L5.size) (by omega)).mono ?_
    rintro e w6 ⟨rfl, S6, hb6⟩
    have R6 := R5.below hb6
    have P6 := P5.below hb6
    have Q6 := Q5.below hb6
    have L6 := bel_trans L5 hb6
    clear R5 P5 Q5 L5 hb6
    go_wp2_with fail
    refine (eq_shells _ _ l _ (R6.at_ R6.lt HM.out) (S6.at_ S6.lt HM.out)).mono ?_
    rintro e w7 ⟨rfl, hb7⟩
    have R7 := R6.below hb7
    have P7 := P6.below hb7
    have Q7 := Q6.below hb7
    have L7 := bel_trans L6 hb7
    clear R6 P6 Q6 L6 hb7 S6
    go_wp2_with fail
    refine (mark_shells _ l.length _ _ (R7.free HM.out) (by omega)).mono ?_
    rintro e w8 ⟨rfl, hg8, _⟩
    have P8 := P7.kept hg8 (ne_blk fun k hk e => by have := B2 k hk; injection e; omega)
    have Q8 := Q7.kept hg8 (ne_blk fun k hk e => by have := (blk Q7) k hk; injection e; omega)
    have L8 := L7.grown hg8 L7.size (fun k e => by injection e; omega)
    clear R7 P7 Q7 L7 hg8
    go_wp2_with fail
    refine (eq_shells _ _ (openL l) _ Q8.at_ P8.at_).mono ?_
    rintro e w9 ⟨rfl, hb9⟩
    have P9 := P8.below hb9
    have Q9 := Q8.below hb9
    have L9 := bel_trans L8 hb9
    clear P8 Q8 L8 hb9
    go_wp2_with fail
    refine (mark_shells _ _ _ _ (toFree Q9) (by omega)).mono ?_
    rintro e w10 ⟨rfl, hg10, M10⟩
    have hz10 := hg10.size
    have P10 := P9.kept hg10 (ne_blk fun k hk e => by have := B2 k hk; have := (blk Q9) k e; omega)
    have L10 := L9.grown hg10 L9.size (fun k e => by have := (blk Q9) k e; omega)
    have M10 := M10.more hz10
    clear P9 Q9 L9 hg10 hz10
    go_wp2_with fail
    refine (held_shells _ _ _ M10 (by omega)).mono ?_
    rintro e w' ⟨rfl, rfl⟩
    go_wp2_with fail
    refine (to_shells _ l _ (hs.below L10 |>.more L10.size) (by omega)).mono ?_
    rintro e w11 ⟨rfl, R11, hb11⟩
    have P11 := P10.below hb11
    have M11 := M10.bel hb11
    have L11 := bel_trans L10 hb11
    clear P10 M10 L10 hb11
    go_wp2_with fail
    refine (impl_open _ l _ (R11.at_ (R11.lt) HM.out) (by omega)).mono ?_
    rintro e w12 ⟨v2, rfl, Q12, hb12⟩
    have P12 := P11.below hb12
    have M12 := M11.bel hb12
    have L12 := bel_trans L11 hb12
    clear P11 M11 L11 hb12 R11
    go_wp2_with fail
    refine (eq_shells _ _ (openL l) _ Q12.at_ P12.at_).mono ?_
    rintro e w13 ⟨rfl, hb13⟩
    have M13 := M12.bel hb13
    have L13 := bel_trans L12 hb13
    clear P12 M12 L12 hb13 Q12
    go_wp2_with fail
    refine (held_shells _ _ _ M13 (by omega)).mono ?_
    rintro e w' ⟨rfl, rfl⟩
    go_wp2_with fail
    go_ret
    exact ⟨rfl, L13⟩

set_option maxRecDepth 100000 in
theorem lifted (os : Os) (started : os.Started) (H : Type) (enc : TypeId × Value → H) :
    ReturnsInHanded {} Try.checked os 10 .any (Rows.fnExactConfigOpenSpec.pre6 enc Try.prog Try.f10 Rows.fnExactConfigOpenRow.domain false) (Rows.fnExactConfigOpenSpec.post enc Try.prog Try.f10 false true false false) := by
  refine returnsInHanded_of_change (C := Try.checked) own started (by kernel_rfl) Try.func10
    (ChangeSpec.witness6 (enc := enc) (C := Try.checked) false ⟨#[], #[.slice none 0 0], []⟩ 8 (by kernel_rfl) (by kernel_rfl) (by kernel_rfl) (by kernel_rfl)) ?_
  intro W base args ds gs before hval0 hW hcnd _
  have hval : ∀ (j : Nat) t v, Try.f10.params[j]? = some t → args[j]? = some v → Value.okWide Try.prog W .any base t v := hval0
  have hW' := hW
  have hlt := hW.lt
  obtain ⟨p, q, hA0, hV, rfl, hfz, hnd⟩ := hW
  have hA : DataW.TrodAll enc Try.prog W 0 (fun _ => true) true Try.f10.params.toList args.toList ds p := hA0
  rw [Try.params10] at hA hval
  obtain ⟨v0, vs0, d0, ds0, p0, q0, hargs, rfl, rfl, h0, r0⟩ := trodAll_cons hA
  obtain ⟨rfl, rfl, rfl⟩ := trodAll_nil r0
  obtain rfl : args = #[v0] := by cases args; simp_all
  obtain ⟨rfl, rfl⟩ := trodVars_none hV
  clear hA0 hval0 hA hfz hnd
  obtain ⟨a0, n0, c0, l0, rfl, hnc0, hcm0, hs0⟩ := open_shells (hval 0 22 v0 rfl rfl) h0 (fun x hx => hlt x (by simp [hx]))
  exact law_close laidOut (by kernel_rfl) rfl Try.underlying4 rfl rfl hW' (walk a0 n0 c0 l0 W hnc0 hcm0 hs0)

theorem over : Rows.fnExactConfigOpenRow.holds Try.pinned (OpenSpec.ofChange Rows.fnExactConfigOpenSpec) :=
  OpenClaim.holds_of_wide 10 Try.f10 rfl rfl rfl rfl rfl rfl rfl ⟨rfl, rfl, rfl, rfl, rfl⟩ rfl rfl rfl rfl rfl (by kernel_rfl) Try.func10 (by kernel_rfl)
    (of_decide_eq_true (by kernel_rfl)) (by unfold Func.isWrapper; first | (rw [if_pos (by decide +kernel)]; kernel_rfl) | (rw [if_neg (by decide +kernel)]; exact ⟨rfl, rfl⟩))
    (fun os started H enc _ => lifted os started H enc)

theorem proved : Rows.FnExactConfigOpenSaid := over
end Go.Proofs.Ytocknafdgeneoaa.fnExactConfigOpen
