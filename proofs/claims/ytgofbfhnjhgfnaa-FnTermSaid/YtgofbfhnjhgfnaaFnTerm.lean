/- A term has a weight: the law returns true for all bytes. No condition. -/
import Derived.Test.YtgofbfhnjhgfnaaScalar
import Derived.Test.YtgofbfhnjhgfnaaDrawShell
namespace Go.Proofs.Ytgofbfhnjhgfnaa.fnTerm
open Go.ChangeShapes Go.WideShapes Go.ChangeAt Go.RowKit Go.Deep Go.Joins
set_option linter.unusedVariables false

theorem walk (a : Option Addr) (n c : Nat) (W : World) (hnc : n ≤ c) (hcm : c ≤ maxLen) (hb : Bytes W W.heap.size a n) :
    Calls Try.prog 9 #[.slice a n c] W fun e W' => e = .returned (.bool true) ∧ Below W.heap.size W W' := by
  have hcm' := hcm
  unfold maxLen at hcm'
  by_cases hn : 1048576 < n
  · go_enter Try.func9, Try.ntmps9
    go_wp2_with fail
    go_ret
    exact ⟨rfl, (by repeat (first | exact Below.refl _ _ | assumption | refine bel_drewN ?_ _ | refine bel_drew ?_ | refine bel_alloc ?_ _ | refine bel_set ?_ (by simp; omega) _ | refine bel_set ?_ (by simp) _ | refine bel_trans ?_ (by assumption)))⟩
  · go_enter Try.func9, Try.ntmps9
    go_wp2_with fail
    refine (draw_term_weight _ _ _ _ hnc hcm hb).mono ?_
    rintro e w1 ⟨s, l, rfl, hx, hb1⟩
    obtain ⟨x1, x2, x3, x4⟩ := hx
    go_wp2_with fail
    refine (impl_tw _ _ _).mono ?_
    rintro e w2 ⟨rfl, hb2⟩
    have O2 := (Own.new w1 27 #[.int .i64 s, .int .i64 l]).below hb2
    have q2 := O2.cell
    have l2 := O2.lt
    go_wp2_with fail
    refine (spec_tw _ _ _).mono ?_
    rintro e w3 ⟨rfl, hb3⟩
    have O3 := O2.below hb3
    have q3 := O3.cell
    have l3 := O3.lt
    cases hv : tvB s l
    · have h0' : (tw s l == 0) = true := by simp [tw, hv]
      clear hv
      go_wp2_with fail
      go_ret
      exact ⟨rfl, (by repeat (first | exact Below.refl _ _ | assumption | refine bel_drewN ?_ _ | refine bel_drew ?_ | refine bel_alloc ?_ _ | refine bel_set ?_ (by simp; omega) _ | refine bel_set ?_ (by simp) _ | refine bel_trans ?_ (by assumption)))⟩
    · have hb := tvB_true.1 hv
      obtain ⟨y1, y2, y3, y4⟩ := hb
      have hm1 : 1 ≤ (s + 1) * (2 * l + 1) := Int.le_trans (by omega) (Int.mul_le_mul (show 1 ≤ s + 1 by omega) (show 1 ≤ 2 * l + 1 by omega) (by omega) (by omega))
      have hm2 : (s + 1) * (2 * l + 1) ≤ 9 * 17 := Int.mul_le_mul (by omega) (by omega) (by omega) (by omega)
      have he : tw s l = (s + 1) * (2 * l + 1) := if_pos hv
      have h0' : (tw s l == 0) = false := by rw [he, beq_eq_false_iff_ne]; omega
      have he' : (tw s l == (s + 1) * (2 * l + 1)) = true := by simp [he]
      clear he
      go_wp2_with fail
      refine (impl_tv _ _ _).mono ?_
      rintro e w' ⟨rfl, rfl⟩
      go_wp2_with fail
      go_outline
      go_ret
      exact ⟨rfl, (by repeat (first | exact Below.refl _ _ | assumption | refine bel_drewN ?_ _ | refine bel_drew ?_ | refine bel_alloc ?_ _ | refine bel_set ?_ (by simp; omega) _ | refine bel_set ?_ (by simp) _ | refine bel_trans ?_ (by assumption)))⟩

set_option maxRecDepth 100000 in
theorem lifted (os : Os) (started : os.Started) (H : Type) (enc : TypeId × Value → H) :
    ReturnsInHanded {} Try.checked os 9 .any (Rows.fnTermSpec.pre6 enc Try.prog Try.f9 Rows.fnTermRow.domain false) (Rows.fnTermSpec.post enc Try.prog Try.f9 false true false false) := by
  refine returnsInHanded_of_change (C := Try.checked) own started (by kernel_rfl) Try.func9
    (ChangeSpec.witness6 (enc := enc) (C := Try.checked) false ⟨#[], #[.slice none 0 0], []⟩ 8 (by kernel_rfl) (by kernel_rfl) (by kernel_rfl) (by kernel_rfl)) ?_
  intro W base args ds gs before hval0 hW hcnd _
  have hval : ∀ (j : Nat) t v, Try.f9.params[j]? = some t → args[j]? = some v → Value.okWide Try.prog W .any base t v := hval0
  have hW' := hW
  have hlt := hW.lt
  obtain ⟨p, q, hA0, hV, rfl, hfz, hnd⟩ := hW
  have hA : DataW.TrodAll enc Try.prog W 0 (fun _ => true) true Try.f9.params.toList args.toList ds p := hA0
  rw [Try.params9] at hA hval
  obtain ⟨v0, vs0, d0, ds0, p0, q0, hargs, rfl, rfl, h0, r0⟩ := trodAll_cons hA
  obtain ⟨rfl, rfl, rfl⟩ := trodAll_nil r0
  obtain rfl : args = #[v0] := by cases args; simp_all
  obtain ⟨rfl, rfl⟩ := trodVars_none hV
  clear hA0 hval0 hA hfz hnd
  obtain ⟨a0, n0, c0, rfl, hnc0, hcm0, hb0⟩ := open_bytes Try.underlying37 Try.underlying5 (by kernel_rfl) (hval 0 37 v0 rfl rfl) h0 (fun x hx => hlt x (by simp [hx]))
  exact law_close laidOut (by kernel_rfl) rfl Try.underlying4 rfl rfl hW' (walk a0 n0 c0 W hnc0 hcm0 hb0)

theorem over : Rows.fnTermRow.holds Try.pinned (OpenSpec.ofChange Rows.fnTermSpec) :=
  OpenClaim.holds_of_wide 9 Try.f9 rfl rfl rfl rfl rfl rfl rfl ⟨rfl, rfl, rfl, rfl, rfl⟩ rfl rfl rfl rfl rfl (by kernel_rfl) Try.func9 (by kernel_rfl)
    (of_decide_eq_true (by kernel_rfl)) (by unfold Func.isWrapper; first | (rw [if_pos (by decide +kernel)]; kernel_rfl) | (rw [if_neg (by decide +kernel)]; exact ⟨rfl, rfl⟩))
    (fun os started H enc _ => lifted os started H enc)

theorem proved : Rows.FnTermSaid := over
end Go.Proofs.Ytgofbfhnjhgfnaa.fnTerm
