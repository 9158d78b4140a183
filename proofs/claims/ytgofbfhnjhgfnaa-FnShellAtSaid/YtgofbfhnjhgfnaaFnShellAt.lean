/- Shells are filled in order: the law returns true for all bytes. No condition. -/
import Derived.Test.YtgofbfhnjhgfnaaSlices
import Derived.Test.YtgofbfhnjhgfnaaDraw
namespace Go.Proofs.Ytgofbfhnjhgfnaa.fnShellAt
open Go.ChangeShapes Go.WideShapes Go.ChangeAt Go.RowKit Go.Deep Go.Joins
set_option linter.unusedVariables false

set_option maxHeartbeats 1000000 in
theorem walk (a : Option Addr) (n c : Nat) (W : World) (hnc : n ≤ c) (hcm : c ≤ maxLen) (hb : Bytes W W.heap.size a n) :
    Calls Try.prog 12 #[.slice a n c] W fun e W' => e = .returned (.bool true) ∧ Below W.heap.size W W' := by
  have hcm' := hcm
  unfold maxLen at hcm'
  by_cases hn : 1048576 < n
  · go_enter Try.func12, Try.ntmps12
    go_wp2_with fail
    go_ret
    exact ⟨rfl, (by repeat (first | exact Below.refl _ _ | assumption | refine bel_drewN ?_ _ | refine bel_drew ?_ | refine bel_alloc ?_ _ | refine bel_set ?_ (by simp; omega) _ | refine bel_set ?_ (by simp) _ | refine bel_trans ?_ (by assumption)))⟩
  · go_enter Try.func12, Try.ntmps12
    go_wp2_with fail
    refine (draw_at _ _ _ _ hnc hcm hb).mono ?_
    rintro e w1 ⟨k, rfl, hk, hb1⟩
    obtain ⟨hk0, hk1⟩ := hk
    go_wp2_with fail
    refine (impl_at _ _).mono ?_
    rintro e w2 ⟨rfl, hb2⟩
    go_wp2_with fail
    refine (spec_at _ _).mono ?_
    rintro e w3 ⟨rfl, hb3⟩
    have O3 := (Own.new w2 33 #[.int .i64 (atSh k).1, .int .i64 (atSh k).2.1, .int .i64 (atSh k).2.2]).below hb3
    have q3 := O3.cell
    have l3 := O3.lt
    cases hv : inB k 0 18
    · clear hv
      go_wp2_with fail
      go_ret
      exact ⟨rfl, (by repeat (first | exact Below.refl _ _ | assumption | refine bel_drewN ?_ _ | refine bel_drew ?_ | refine bel_alloc ?_ _ | refine bel_set ?_ (by simp; omega) _ | refine bel_set ?_ (by simp) _ | refine bel_trans ?_ (by assumption)))⟩
    · have hkk := inB_true.1 hv
      have hst := stepOk_of hkk.1 hkk.2
      obtain ⟨p1, p2, p3⟩ := stepOk_parts (stepOk_of hkk.1 hkk.2) hkk.2
      have p4 := shB_bd p1
      obtain ⟨y1, y2, y3, y4⟩ := p4
      have O3' := O3
      by_cases h18 : k < 18
      · have hi : inB (k + 1) 0 18 = true := inB_true.2 (by omega)
        have hk18 : (k == 18) = false := by simp; omega
        have p3 := p3 h18
        have p5 := shB_bd (stepOk_parts (stepOk_of (show 0 ≤ k + 1 by omega) (show k + 1 ≤ 18 by omega)) (by omega)).1
        obtain ⟨z1, z2, z3, z4⟩ := p5
        have HI := Lib.hid hi
        have H1 := Lib.hid p1
        have H2 := Lib.hid p2
        clear hv hi p1 p2
        go_wp2_with fail
        refine (impl_at _ _).mono ?_
        rintro e w4 ⟨rfl, hb4⟩
        rw [HI.out]
        have O4 := (O3.alloc (.cells #[.int .i64 (atSh k).1, .int .i64 (atSh k).2.1, .int .i64 (atSh k).2.2] 33)).below hb4
        have LW : Below W.heap.size W w4 := (by repeat (first | exact Below.refl _ _ | assumption | refine bel_drewN ?_ _ | refine bel_drew ?_ | refine bel_alloc ?_ _ | refine bel_set ?_ (by simp; omega) _ | refine bel_set ?_ (by simp) _ | refine bel_trans ?_ (by assumption)))
        generalize (atSh k).1 = x at *
        generalize (atSh k).2.1 = y at *
        generalize (atSh k).2.2 = z at *
        generalize (atSh (k + 1)).1 = u at *
        generalize (atSh (k + 1)).2.1 = v at *
        generalize (atSh (k + 1)).2.2 = t at *
        clear q3 l3 hb1 hb2 hb3 hb4 O3 O3'
        have l4 := O4.lt
        have e4 := O4.cell
        go_wp2_with fail
        have LB : Below W.heap.size W (w4.alloc (.cells #[.int .i64 u, .int .i64 v, .int .i64 t] 33)) := (by repeat (first | exact Below.refl _ _ | assumption | refine bel_drewN ?_ _ | refine bel_drew ?_ | refine bel_alloc ?_ _ | refine bel_set ?_ (by simp; omega) _ | refine bel_set ?_ (by simp) _ | refine bel_trans ?_ (by assumption)))
        have OS := O4.alloc (.cells #[.int .i64 u, .int .i64 v, .int .i64 t] 33)
        have OX := Own.new w4 33 #[.int .i64 u, .int .i64 v, .int .i64 t]
        clear O4 LW e4
        generalize w4.alloc (.cells #[.int .i64 u, .int .i64 v, .int .i64 t] 33) = A at *
        generalize w4.heap.size = b4 at *
        generalize w2.heap.size = b2 at *
        have s0 : A.cell? ⟨b2, 0, none⟩ = some (.int .i64 x) := OS.cell 0
        have s1 : A.cell? ⟨b2, 1, none⟩ = some (.int .i64 y) := OS.cell 1
        have s2 : A.cell? ⟨b2, 2, none⟩ = some (.int .i64 z) := OS.cell 2
        have x0 : A.cell? ⟨b4, 0, none⟩ = some (.int .i64 u) := OX.cell 0
        have x1 : A.cell? ⟨b4, 1, none⟩ = some (.int .i64 v) := OX.cell 1
        clear OS OX
        have hzc : (z == cap y) = true := by rw [H2.out]; simp
        go_region_held3 (fun w' => w'.cell? ⟨b2, 0, none⟩ = some (.int .i64 x) ∧ w'.cell? ⟨b2, 1, none⟩ = some (.int .i64 y) ∧ w'.cell? ⟨b2, 2, none⟩ = some (.int .i64 z) ∧ w'.cell? ⟨b4, 0, none⟩ = some (.int .i64 u) ∧ w'.cell? ⟨b4, 1, none⟩ = some (.int .i64 v) ∧ Below W.heap.size W w')
          (first
            | exact ⟨s0, s1, s2, x0, x1, bel_drew LB⟩
            | assumption
            | go_keep
            | (go_split_ands
               refine ⟨keep_cell hb5 ?_, keep_cell hb5 ?_, keep_cell hb5 ?_, keep_cell hb5 ?_, keep_cell hb5 ?_, bel_trans ?_ hb5⟩ <;> assumption))
          (first
            | (go_at_call 16; refine (impl_cap _ _).mono ?_; rintro e w' ⟨rfl, rfl⟩)
            | (go_at_call 22; (with_reducible refine (impl_sv_yes x y z H1.out _).mono ?_); rintro e w5 ⟨rfl, hb5⟩))
        clear s0 s1 s2 x0 x1 LB
        go_split_ands
        by_cases hlt : x + y < u + v
        · clear p3
          go_wp2_with fail
          go_ret
          exact ⟨rfl, by first | assumption | (go_split_ands; assumption)⟩
        · have p3 := p3.resolve_left hlt
          have heq : (u + v == x + y) = true := by simp [p3.1]
          have hxu := p3.2
          clear p3
          go_wp2_with fail
          go_ret
          exact ⟨rfl, by first | assumption | (go_split_ands; assumption)⟩
      · have hi : inB (k + 1) 0 18 = false := inB_false.2 (by omega)
        have hk18 : (k == 18) = true := by simp; omega
        clear p3
        have HI := Lib.hid hi
        have H1 := Lib.hid p1
        have H2 := Lib.hid p2
        clear hv hi p1 p2
        go_wp2_with fail
        refine (impl_at _ _).mono ?_
        rintro e w4 ⟨rfl, hb4⟩
        rw [HI.out]
        have O4 := (O3.alloc (.cells #[.int .i64 (atSh k).1, .int .i64 (atSh k).2.1, .int .i64 (atSh k).2.2] 33)).below hb4
        have LW : Below W.heap.size W w4 := (by repeat (first | exact Below.refl _ _ | assumption | refine bel_drewN ?_ _ | refine bel_drew ?_ | refine bel_alloc ?_ _ | refine bel_set ?_ (by simp; omega) _ | refine bel_set ?_ (by simp) _ | refine bel_trans ?_ (by assumption)))
        generalize (atSh k).1 = x at *
        generalize (atSh k).2.1 = y at *
        generalize (atSh k).2.2 = z at *
        generalize (atSh (k + 1)).1 = u at *
        generalize (atSh (k + 1)).2.1 = v at *
        generalize (atSh (k + 1)).2.2 = t at *
        clear q3 l3 hb1 hb2 hb3 hb4 O3 O3'
        have l4 := O4.lt
        have e4 := O4.cell
        go_wp2_with fail
        have LB : Below W.heap.size W (w4.alloc (.cells #[.int .i64 u, .int .i64 v, .int .i64 t] 33)) := (by repeat (first | exact Below.refl _ _ | assumption | refine bel_drewN ?_ _ | refine bel_drew ?_ | refine bel_alloc ?_ _ | refine bel_set ?_ (by simp; omega) _ | refine bel_set ?_ (by simp) _ | refine bel_trans ?_ (by assumption)))
        have OS := O4.alloc (.cells #[.int .i64 u, .int .i64 v, .int .i64 t] 33)
        have OX := Own.new w4 33 #[.int .i64 u, .int .i64 v, .int .i64 t]
        clear O4 LW e4
        generalize w4.alloc (.cells #[.int .i64 u, .int .i64 v, .int .i64 t] 33) = A at *
        generalize w4.heap.size = b4 at *
        generalize w2.heap.size = b2 at *
        have s0 : A.cell? ⟨b2, 0, none⟩ = some (.int .i64 x) := OS.cell 0
        have s1 : A.cell? ⟨b2, 1, none⟩ = some (.int .i64 y) := OS.cell 1
        have s2 : A.cell? ⟨b2, 2, none⟩ = some (.int .i64 z) := OS.cell 2
        have x0 : A.cell? ⟨b4, 0, none⟩ = some (.int .i64 u) := OX.cell 0
        have x1 : A.cell? ⟨b4, 1, none⟩ = some (.int .i64 v) := OX.cell 1
        clear OS OX
        have hzc : (z == cap y) = true := by rw [H2.out]; simp
        go_region_held3 (fun w' => w'.cell? ⟨b2, 0, none⟩ = some (.int .i64 x) ∧ w'.cell? ⟨b2, 1, none⟩ = some (.int .i64 y) ∧ w'.cell? ⟨b2, 2, none⟩ = some (.int .i64 z) ∧ w'.cell? ⟨b4, 0, none⟩ = some (.int .i64 u) ∧ w'.cell? ⟨b4, 1, none⟩ = some (.int .i64 v) ∧ Below W.heap.size W w')
          (first
            | exact ⟨s0, s1, s2, x0, x1, bel_drew LB⟩
            | assumption
            | go_keep
            | (go_split_ands
               refine ⟨keep_cell hb5 ?_, keep_cell hb5 ?_, keep_cell hb5 ?_, keep_cell hb5 ?_, keep_cell hb5 ?_, bel_trans ?_ hb5⟩ <;> assumption))
          (first
            | (go_at_call 16; refine (impl_cap _ _).mono ?_; rintro e w' ⟨rfl, rfl⟩)
            | (go_at_call 22; (with_reducible refine (impl_sv_yes x y z H1.out _).mono ?_); rintro e w5 ⟨rfl, hb5⟩))
        clear s0 s1 s2 x0 x1 LB
        go_split_ands
        go_wp2_with fail
        go_ret
        exact ⟨rfl, by first | assumption | (go_split_ands; assumption)⟩

set_option maxRecDepth 100000 in
theorem lifted (os : Os) (started : os.Started) (H : Type) (enc : TypeId × Value → H) :
    ReturnsInHanded {} Try.checked os 12 .any (Rows.fnShellAtSpec.pre6 enc Try.prog Try.f12 Rows.fnShellAtRow.domain false) (Rows.fnShellAtSpec.post enc Try.prog Try.f12 false true false false) := by
  refine returnsInHanded_of_change (C := Try.checked) own started (by kernel_rfl) Try.func12
    (ChangeSpec.witness6 (enc := enc) (C := Try.checked) false ⟨#[], #[.slice none 0 0], []⟩ 8 (by kernel_rfl) (by kernel_rfl) (by kernel_rfl) (by kernel_rfl)) ?_
  intro W base args ds gs before hval0 hW hcnd _
  have hval : ∀ (j : Nat) t v, Try.f12.params[j]? = some t → args[j]? = some v → Value.okWide Try.prog W .any base t v := hval0
  have hW' := hW
  have hlt := hW.lt
  obtain ⟨p, q, hA0, hV, rfl, hfz, hnd⟩ := hW
  have hA : DataW.TrodAll enc Try.prog W 0 (fun _ => true) true Try.f12.params.toList args.toList ds p := hA0
  rw [Try.params12] at hA hval
  obtain ⟨v0, vs0, d0, ds0, p0, q0, hargs, rfl, rfl, h0, r0⟩ := trodAll_cons hA
  obtain ⟨rfl, rfl, rfl⟩ := trodAll_nil r0
  obtain rfl : args = #[v0] := by cases args; simp_all
  obtain ⟨rfl, rfl⟩ := trodVars_none hV
  clear hA0 hval0 hA hfz hnd
  obtain ⟨a0, n0, c0, rfl, hnc0, hcm0, hb0⟩ := open_bytes Try.underlying37 Try.underlying5 (by kernel_rfl) (hval 0 37 v0 rfl rfl) h0 (fun x hx => hlt x (by simp [hx]))
  exact law_close laidOut (by kernel_rfl) rfl Try.underlying4 rfl rfl hW' (walk a0 n0 c0 W hnc0 hcm0 hb0)

theorem over : Rows.fnShellAtRow.holds Try.pinned (OpenSpec.ofChange Rows.fnShellAtSpec) :=
  OpenClaim.holds_of_wide 12 Try.f12 rfl rfl rfl rfl rfl rfl rfl ⟨rfl, rfl, rfl, rfl, rfl⟩ rfl rfl rfl rfl rfl (by kernel_rfl) Try.func12 (by kernel_rfl)
    (of_decide_eq_true (by kernel_rfl)) (by unfold Func.isWrapper; first | (rw [if_pos (by decide +kernel)]; kernel_rfl) | (rw [if_neg (by decide +kernel)]; exact ⟨rfl, rfl⟩))
    (fun os started H enc _ => lifted os started H enc)

theorem proved : Rows.FnShellAtSaid := over
end Go.Proofs.Ytgofbfhnjhgfnaa.fnShellAt
