/- A shell has a capacity: the law returns true for all bytes. No condition. -/
import Derived.Test.YtgofbfhnjhgfnaaScalar
import Derived.Test.YtgofbfhnjhgfnaaDrawShell
import Derived.StillTailTactics
namespace Go.Proofs.Ytgofbfhnjhgfnaa.fnShell
open Go.ChangeShapes Go.WideShapes Go.ChangeAt Go.RowKit Go.Deep Go.Joins
set_option linter.unusedVariables false

theorem walk (a : Option Addr) (n c : Nat) (W : World) (hnc : n ≤ c) (hcm : c ≤ maxLen) (hb : Bytes W W.heap.size a n) :
    Calls Try.prog 8 #[.slice a n c] W fun e W' => e = .returned (.bool true) ∧ Below W.heap.size W W' := by
  have hcm' := hcm
  unfold maxLen at hcm'
  by_cases hn : 1048576 < n
  · go_enter Try.func8, Try.ntmps8
    go_wp2_with fail
    go_ret
    exact ⟨rfl, (by repeat (first | exact Below.refl _ _ | assumption | refine bel_drewN ?_ _ | refine bel_drew ?_ | refine bel_alloc ?_ _ | refine bel_set ?_ (by simp; omega) _ | refine bel_set ?_ (by simp) _ | refine bel_trans ?_ (by assumption)))⟩
  · go_enter Try.func8, Try.ntmps8
    go_wp2_with fail
    refine (draw_shell_valid _ _ _ _ hnc hcm hb).mono ?_
    rintro e w1 ⟨x, y, z, rfl, hx, hb1⟩
    obtain ⟨x1, x2, x3, x4, x5, x6⟩ := hx
    go_wp2_with fail
    refine (impl_sv _ _ _ _).mono ?_
    rintro e w2 ⟨rfl, hb2⟩
    have O2 := (Own.new w1 33 #[.int .i64 x, .int .i64 y, .int .i64 z]).below hb2
    have q2 := O2.cell
    have l2 := O2.lt
    go_wp2_with fail
    refine (spec_sv _ _ _ _).mono ?_
    rintro e w3 ⟨rfl, hb3⟩
    have O3 := O2.below hb3
    have q3 := O3.cell
    have f3 := O3.frozen
    have l3 := O3.lt
    cases hv : shB x y z
    · clear hv
      go_wp2_with fail
      go_ret
      exact ⟨rfl, (by repeat (first | exact Below.refl _ _ | assumption | refine bel_drewN ?_ _ | refine bel_drew ?_ | refine bel_alloc ?_ _ | refine bel_set ?_ (by simp; omega) _ | refine bel_set ?_ (by simp) _ | refine bel_trans ?_ (by assumption)))⟩
    · have hb := shB_true.1 hv
      obtain ⟨y1, y2, y3, y4, y5, y6, y7⟩ := hb
      clear hv
      have hcap : cap y = 4 * y + 2 := if_neg (by omega)
      have HC := Lib.hid hcap
      have hc1 : 2 ≤ cap y := by omega
      have hc2 : cap y ≤ 14 := by omega
      have hz : z ≤ cap y := by omega
      have H1 := Lib.hid (shB_false.2 (by omega) : shB x y (cap y + 1) = false)
      have H2 := Lib.hid (shB_false.2 (by omega) : shB x x z = false)
      clear hcap
      go_wp2_with fail
      refine (impl_cap _ _).mono ?_
      rintro e w' ⟨rfl, rfl⟩
      go_wp2_with fail
      have LB : Below W.heap.size W ((w3.alloc (.cells #[.int .i64 x, .int .i64 y, .int .i64 (cap y + 1)] 33)).alloc (.cells #[.int .i64 x, .int .i64 x, .int .i64 z] 33)) := (by repeat (first | exact Below.refl _ _ | assumption | refine bel_drewN ?_ _ | refine bel_drew ?_ | refine bel_alloc ?_ _ | refine bel_set ?_ (by simp; omega) _ | refine bel_set ?_ (by simp) _ | refine bel_trans ?_ (by assumption)))
      have OS := (O3.alloc (.cells #[.int .i64 x, .int .i64 y, .int .i64 (cap y + 1)] 33)).alloc (.cells #[.int .i64 x, .int .i64 x, .int .i64 z] 33)
      have OX := (Own.new w3 33 #[.int .i64 x, .int .i64 y, .int .i64 (cap y + 1)]).alloc (.cells #[.int .i64 x, .int .i64 x, .int .i64 z] 33)
      have OY := Own.new (w3.alloc (.cells #[.int .i64 x, .int .i64 y, .int .i64 (cap y + 1)] 33)) 33 #[.int .i64 x, .int .i64 x, .int .i64 z]
      rw [World.size_alloc] at OY
      clear q2 l2 q3 f3 l3 hb1 hb2 hb3 O2 O3
      generalize (w3.alloc (.cells #[.int .i64 x, .int .i64 y, .int .i64 (cap y + 1)] 33)).alloc (.cells #[.int .i64 x, .int .i64 x, .int .i64 z] 33) = A at *
      have s1 : A.cell? ⟨w1.heap.size, 1, none⟩ = some (.int .i64 y) := OS.cell 1
      have s2 : A.cell? ⟨w1.heap.size, 2, none⟩ = some (.int .i64 z) := OS.cell 2
      have x0 : A.cell? ⟨w3.heap.size, 0, none⟩ = some (.int .i64 x) := OX.cell 0
      have x1 : A.cell? ⟨w3.heap.size, 1, none⟩ = some (.int .i64 y) := OX.cell 1
      have x2 : A.cell? ⟨w3.heap.size, 2, none⟩ = some (.int .i64 (cap y + 1)) := OX.cell 2
      have z0 : A.cell? ⟨w3.heap.size + 1, 0, none⟩ = some (.int .i64 x) := OY.cell 0
      have z1 : A.cell? ⟨w3.heap.size + 1, 1, none⟩ = some (.int .i64 x) := OY.cell 1
      have z2 : A.cell? ⟨w3.heap.size + 1, 2, none⟩ = some (.int .i64 z) := OY.cell 2
      generalize w1.heap.size = b1 at *
      generalize w3.heap.size = b3 at *
      clear OS OX OY
      go_region_held3 (fun w' => w'.cell? ⟨b1, 1, none⟩ = some (.int .i64 y) ∧ w'.cell? ⟨b1, 2, none⟩ = some (.int .i64 z) ∧ w'.cell? ⟨b3, 0, none⟩ = some (.int .i64 x) ∧ w'.cell? ⟨b3, 1, none⟩ = some (.int .i64 y) ∧ w'.cell? ⟨b3, 2, none⟩ = some (.int .i64 (cap y + 1)) ∧
          w'.cell? ⟨b3 + 1, 0, none⟩ = some (.int .i64 x) ∧ w'.cell? ⟨b3 + 1, 1, none⟩ = some (.int .i64 x) ∧ w'.cell? ⟨b3 + 1, 2, none⟩ = some (.int .i64 z) ∧ Below W.heap.size W w')
        (first
          | exact ⟨s1, s2, x0, x1, x2, z0, z1, z2, bel_drew LB⟩
          | assumption
          | go_keep
          | (go_split_ands
             refine ⟨keep_cell hb5 ?_, keep_cell hb5 ?_, keep_cell hb5 ?_, keep_cell hb5 ?_, keep_cell hb5 ?_, keep_cell hb5 ?_, keep_cell hb5 ?_, keep_cell hb5 ?_, bel_trans ?_ hb5⟩ <;> assumption))
        (first
          | (go_at_call 16; refine (impl_cap _ _).mono ?_; rintro e w' ⟨rfl, rfl⟩)
          | (go_at_call 22; (with_reducible refine (impl_sv_no x y (cap y + 1) H1.out _).mono ?_); rintro e w5 ⟨rfl, hb5⟩)
          | (go_at_call 22; (with_reducible refine (impl_sv_no x x z H2.out _).mono ?_); rintro e w5 ⟨rfl, hb5⟩))
      go_wp2_with fail
      go_ret
      exact ⟨rfl, by first | assumption | (go_split_ands; assumption)⟩

set_option maxRecDepth 100000 in
theorem lifted (os : Os) (started : os.Started) (H : Type) (enc : TypeId × Value → H) :
    ReturnsInHanded {} Try.checked os 8 .any (Rows.fnShellSpec.pre6 enc Try.prog Try.f8 Rows.fnShellRow.domain false) (Rows.fnShellSpec.post enc Try.prog Try.f8 false true false false) := by
  refine returnsInHanded_of_change (C := Try.checked) own started (by kernel_rfl) Try.func8
    (ChangeSpec.witness6 (enc := enc) (C := Try.checked) false ⟨#[], #[.slice none 0 0], []⟩ 8 (by kernel_rfl) (by kernel_rfl) (by kernel_rfl) (by kernel_rfl)) ?_
  intro W base args ds gs before hval0 hW hcnd _
  have hval : ∀ (j : Nat) t v, Try.f8.params[j]? = some t → args[j]? = some v → Value.okWide Try.prog W .any base t v := hval0
  have hW' := hW
  have hlt := hW.lt
  obtain ⟨p, q, hA0, hV, rfl, hfz, hnd⟩ := hW
  have hA : DataW.TrodAll enc Try.prog W 0 (fun _ => true) true Try.f8.params.toList args.toList ds p := hA0
  rw [Try.params8] at hA hval
  obtain ⟨v0, vs0, d0, ds0, p0, q0, hargs, rfl, rfl, h0, r0⟩ := trodAll_cons hA
  obtain ⟨rfl, rfl, rfl⟩ := trodAll_nil r0
  obtain rfl : args = #[v0] := by cases args; simp_all
  obtain ⟨rfl, rfl⟩ := trodVars_none hV
  clear hA0 hval0 hA hfz hnd
  obtain ⟨a0, n0, c0, rfl, hnc0, hcm0, hb0⟩ := open_bytes Try.underlying37 Try.underlying5 (by kernel_rfl) (hval 0 37 v0 rfl rfl) h0 (fun x hx => hlt x (by simp [hx]))
  exact law_close laidOut (by kernel_rfl) rfl Try.underlying4 rfl rfl hW' (walk a0 n0 c0 W hnc0 hcm0 hb0)

theorem over : Rows.fnShellRow.holds Try.pinned (OpenSpec.ofChange Rows.fnShellSpec) :=
  OpenClaim.holds_of_wide 8 Try.f8 rfl rfl rfl rfl rfl rfl rfl ⟨rfl, rfl, rfl, rfl, rfl⟩ rfl rfl rfl rfl rfl (by kernel_rfl) Try.func8 (by kernel_rfl)
    (of_decide_eq_true (by kernel_rfl)) (by unfold Func.isWrapper; first | (rw [if_pos (by decide +kernel)]; kernel_rfl) | (rw [if_neg (by decide +kernel)]; exact ⟨rfl, rfl⟩))
    (fun os started H enc _ => lifted os started H enc)

theorem proved : Rows.FnShellSaid := over
end Go.Proofs.Ytgofbfhnjhgfnaa.fnShell
