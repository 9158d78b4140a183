/-
  The text of a shell: what the program's and the reference's functions return.
-/
import Derived.Test.YtgjogbljjpfadaaDoorShelf
import Derived.Test.YtgjogbljjpfadaaDoorTextPlain
import Derived.Shelf.Strconv.Itoa3
import Derived.Laws.IdiomStrings
namespace Go.Proofs.YtgjogbljjpfadaaDoor
open Go.ChangeShapes Go.WideShapes Go.ChangeAt Go.RowKit Go.Deep Go.Joins
set_option linter.unusedVariables false
set_option maxRecDepth 100000

theorem impl_dec (u : Nat) (hu : u < 100) (w : World) : Calls Tryd.prog 18 #[.int .i64 u] w fun e w' => e = .returned (.string (decS u)) ∧ w = w' :=
  (Any.strconv_Itoa_small Tryd.lays171 u hu w).mono fun _ _ ⟨h, k⟩ => ⟨h, k.symm⟩

theorem run_str1 (w : World) (x : UInt8) (g : Nat) (h : w.cell? ⟨g, 0, none⟩ = some (.int .u8 (x.toNat : Int))) : (convert 35 9 (.slice (some ⟨g, 0, none⟩) 1 1)).run Tryd.prog w = .ok (.string ⟨#[x]⟩) w := by
  exact run_convert_bytes_back w 35 9 5 ⟨g, 0, none⟩ 1 [x] Tryd.underlying35 Tryd.underlying5 Tryd.underlying9 (by
    intro j hj
    have : j = 0 := by simp at hj; omega
    subst this
    simpa [Addr.add] using h)
theorem ret_str {a b : ByteArray} (h : a = b) : Ending.returned (.string a) = .returned (.string b) := by rw [h]
theorem ofNat_toNat {u : Nat} (hu : u < 10) : ((UInt8.ofNat (48 + u)).toNat : Int) = 48 + u := by simp; omega

theorem spec_dec1 (u : Nat) (hu : u < 10) (w : World) : Calls Tryd.prog 16 #[.int .i64 u] w fun e w' => e = .returned (.string (decS u)) ∧ Below w.heap.size w w' := by
  obtain ⟨x, hx⟩ : ∃ x, UInt8.ofNat (48 + u) = x := ⟨_, rfl⟩
  have hxi : (x.toNat : Int) = 48 + u := hx ▸ ofNat_toNat hu
  have hcv := run_str1 (w.alloc (.cells #[.int .u8 (48 + (u : Int))] 5)) x w.heap.size (by rw [hxi]; exact (Own.new w 5 #[.int .u8 (48 + (u : Int))]).cell 0)
  have hw : IntKind.u8.wrap (48 + (u : Int)) = 48 + u := by simp [IntKind.wrap, IntKind.bits, IntKind.signed]; omega
  have hd := dec1 hu
  rw [hx] at hd
  have HD := Lib.hid hd
  clear hd hx hxi
  go_enter Tryd.func16, Tryd.ntmps16
  go_wp2
  go_ret
  exact ⟨ret_str HD.out.symm, (by repeat (first | exact Below.refl _ _ | assumption | refine bel_drewN ?_ _ | refine bel_drew ?_ | refine bel_alloc ?_ _ | refine bel_set ?_ (by simp; omega) _ | refine bel_set ?_ (by simp) _ | refine bel_trans ?_ (by assumption)))⟩

theorem one_size (x : UInt8) : (⟨#[x]⟩ : ByteArray).size = 1 := rfl
set_option maxHeartbeats 2000000 in
theorem spec_dec2 (u : Nat) (hu : u < 100) (h1 : ¬ u < 10) (w : World) : Calls Tryd.prog 16 #[.int .i64 u] w fun e w' => e = .returned (.string (decS u)) ∧ Below w.heap.size w w' := by
  obtain ⟨a, ha⟩ : ∃ a, u / 10 = a := ⟨_, rfl⟩
  obtain ⟨r, hr⟩ : ∃ r, u % 10 = r := ⟨_, rfl⟩
  have hd := dec2 h1 hu
  rw [ha, hr] at hd
  have ha10 : a < 10 := by omega
  have hr10 : r < 10 := by omega
  obtain ⟨x, hx⟩ : ∃ x, UInt8.ofNat (48 + r) = x := ⟨_, rfl⟩
  have hxi : (x.toNat : Int) = 48 + r := hx ▸ ofNat_toNat hr10
  rw [hx] at hd
  have HD := Lib.hid hd
  have HX := Lib.hid hxi
  have z1 : (decS a).size = 1 := dec1_size ha10
  have z2 := one_size x
  have hadd : ∀ W : World, (Op.stringOp .add (decS a) ⟨#[x]⟩).run Tryd.prog W = .ok (.string (decS a ++ ⟨#[x]⟩)) W := fun W => run_string_add_sum W _ _ (by rw [z1, z2]; omega)
  have d10 : decide ((u : Int) < 10) = false := by simp; omega
  have ha0 : (0 : Int) ≤ a := by omega
  have e1 : (u : Int) / 10 = a := by omega
  have e2 : (u : Int) % 10 = r := by omega
  have e3 : (u : Int).tdiv 10 = a := by rw [Int.tdiv_eq_ediv_of_nonneg (by omega)]; exact e1
  have e4 : (u : Int).tmod 10 = r := by rw [Int.tmod_eq_emod_of_nonneg (by omega)]; exact e2
  have hw : IntKind.u8.wrap (48 + (r : Int)) = 48 + r := by simp [IntKind.wrap, IntKind.bits, IntKind.signed]; omega
  have hw3 : IntKind.i64.wrap (a : Int) = a := IntWalk.i64_in _ (by omega)
  have hw2 : IntKind.i64.wrap (48 + (r : Int)) = 48 + r := IntWalk.i64_in _ (by omega)
  have hB := run_str1 (w.alloc (.cells #[.int .u8 (48 + (r : Int))] 5)).drew x w.heap.size (by rw [hxi]; exact (Own.new w 5 #[.int .u8 (48 + (r : Int))]).cell 0)
  clear hd h1 hx hxi ha hr
  go_enter Tryd.func16, Tryd.ntmps16
  go_wp2_with fail
  go_region_with (go_at_call 16; refine (spec_dec1 a ha10 _).mono ?_; rintro e w1 ⟨rfl, hb1⟩; first
    | (have L1 : Below w.heap.size w w1 := bel_trans (a := w.drew) (bel_drew (Below.refl _ _)) hb1; have hA := run_str1 (w1.alloc (.cells #[.int .u8 (48 + (r : Int))] 5)) x w1.heap.size (by rw [HX.out]; exact (Own.new w1 5 #[.int .u8 (48 + (r : Int))]).cell 0))
    | (have L1 : Below w.heap.size w w1 := bel_trans (a := (w.alloc (.cells #[.int .u8 (48 + (r : Int))] 5)).drew) (bel_drew (bel_alloc (Below.refl _ _) _)) hb1; have hC := run_str1 w1 x w.heap.size (by rw [HX.out]; exact (Own.below (w := (w.alloc (.cells #[.int .u8 (48 + (r : Int))] 5)).drew) (Own.new w 5 #[.int .u8 (48 + (r : Int))]) hb1).cell 0)))
  all_goals
    go_wp2_with fail
    go_ret
    exact ⟨ret_str HD.out.symm, (by repeat (first | exact Below.refl _ _ | assumption | refine bel_drewN ?_ _ | refine bel_drew ?_ | refine bel_alloc ?_ _ | refine bel_set ?_ (by simp; omega) _ | refine bel_set ?_ (by simp) _ | refine bel_trans ?_ (by assumption)))⟩
theorem spec_dec (u : Nat) (hu : u < 100) (w : World) : Calls Tryd.prog 16 #[.int .i64 u] w fun e w' => e = .returned (.string (decS u)) ∧ Below w.heap.size w w' := by
  by_cases h : u < 10
  · exact spec_dec1 u h w
  · exact spec_dec2 u hu h w

theorem ext1 (l : Nat) (h : l < 4) : ((⟨#[115, 112, 100, 102]⟩ : ByteArray).extract l (l + 1)).size = 1 := by
  rw [ByteArray.size_extract]
  have : (⟨#[115, 112, 100, 102]⟩ : ByteArray).size = 4 := rfl
  omega
theorem dec_two {u : Nat} (hu : u < 100) : (decS u).size = 1 ∨ (decS u).size = 2 := by
  have a := dec_size hu
  have b := dec_pos hu
  omega
theorem sh_four {n l c : Int} (h : shB n l c = true) : l = 0 ∨ l = 1 ∨ l = 2 ∨ l = 3 := by have := shB_true.1 h; omega

set_option maxHeartbeats 4000000 in
theorem impl_st (n l c : Int) (w : World) : Calls Tryd.prog 8 #[.agg #[.int .i64 n, .int .i64 l, .int .i64 c]] w fun e w' => e = .returned (.string (shText n l c)) ∧ Below w.heap.size w w' := by
  cases hv : shB n l c
  · have HT := Lib.hid (show shText n l c = ByteArray.empty by simp [shText, hv])
    have HV := Lib.hid hv
    go_enter Tryd.func8, Tryd.ntmps8
    go_wp2_with fail
    refine (impl_sv _ _ _ _).mono ?_
    rintro e w1 ⟨rfl, hb1⟩
    have L1 := bel_trans (bel_alloc (Below.refl _ _) _) hb1
    rw [HV.out]
    go_wp2_with fail
    go_ret
    exact ⟨ret_str HT.out.symm, L1⟩
  · have HV := Lib.hid hv
    have hb := shB_true.1 hv
    obtain ⟨N, rfl⟩ := Int.eq_ofNat_of_zero_le (show 0 ≤ n by omega)
    obtain ⟨C, rfl⟩ := Int.eq_ofNat_of_zero_le (show 0 ≤ c by omega)
    have hN : N < 100 := by omega
    have hC : C < 100 := by omega
    have z1 : (decS N).size = 1 := dec1_size (by omega)
    have zC := dec_two hC
    have hl := sh_four hv
    clear hb
    have HT := Lib.hid (show shText N l C = decS N ++ (⟨#[115, 112, 100, 102]⟩ : ByteArray).extract l.toNat (l + 1).toNat ++ decS C by rw [shText, if_pos hv]; rfl)
    have HN := Lib.hid (fun w => impl_dec N hN w)
    have HC := Lib.hid (fun w => impl_dec C hC w)
    generalize shText N l C = T at *
    generalize decS N = a at *
    generalize decS C = b at *
    clear hv
    rcases hl with rfl | rfl | rfl | rfl
    · rcases zC with zC | zC
      all_goals
        go_enter Tryd.func8, Tryd.ntmps8
        go_wp2_with fail
        refine (impl_sv _ _ _ _).mono ?_
        rintro e w1 ⟨rfl, hb1⟩
        have L1 := bel_trans (bel_alloc (Below.refl _ _) _) hb1
        have O := (Own.new w 25 #[.int .i64 N, .int .i64 0, .int .i64 C]).below hb1
        have q0 : w1.cell? ⟨w.heap.size, 0, none⟩ = some (.int .i64 N) := O.cell 0
        have q1 : w1.cell? ⟨w.heap.size, 1, none⟩ = some (.int .i64 0) := O.cell 1
        have q2 : w1.cell? ⟨w.heap.size, 2, none⟩ = some (.int .i64 C) := O.cell 2
        have ql := O.lt
        rw [HV.out]
        go_wp2_with fail
        go_quiet ((go_at_call 18; first | with_reducible exact quiet_left (HN.out _) | with_reducible exact quiet_left (HC.out _)))
        go_wp2_with fail
        go_ret
        exact ⟨ret_str HT.out.symm, bel_drewN L1 _⟩
    · rcases zC with zC | zC
      all_goals
        go_enter Tryd.func8, Tryd.ntmps8
        go_wp2_with fail
        refine (impl_sv _ _ _ _).mono ?_
        rintro e w1 ⟨rfl, hb1⟩
        have L1 := bel_trans (bel_alloc (Below.refl _ _) _) hb1
        have O := (Own.new w 25 #[.int .i64 N, .int .i64 1, .int .i64 C]).below hb1
        have q0 : w1.cell? ⟨w.heap.size, 0, none⟩ = some (.int .i64 N) := O.cell 0
        have q1 : w1.cell? ⟨w.heap.size, 1, none⟩ = some (.int .i64 1) := O.cell 1
        have q2 : w1.cell? ⟨w.heap.size, 2, none⟩ = some (.int .i64 C) := O.cell 2
        have ql := O.lt
        rw [HV.out]
        go_wp2_with fail
        go_quiet ((go_at_call 18; first | with_reducible exact quiet_left (HN.out _) | with_reducible exact quiet_left (HC.out _)))
        go_wp2_with fail
        go_ret
        exact ⟨ret_str HT.out.symm, bel_drewN L1 _⟩
    · rcases zC with zC | zC
      all_goals
        go_enter Tryd.func8, Tryd.ntmps8
        go_wp2_with fail
        refine (impl_sv _ _ _ _).mono ?_
        rintro e w1 ⟨rfl, hb1⟩
        have L1 := bel_trans (bel_alloc (Below.refl _ _) _) hb1
        have O := (Own.new w 25 #[.int .i64 N, .int .i64 2, .int .i64 C]).below hb1
        have q0 : w1.cell? ⟨w.heap.size, 0, none⟩ = some (.int .i64 N) := O.cell 0
        have q1 : w1.cell? ⟨w.heap.size, 1, none⟩ = some (.int .i64 2) := O.cell 1
        have q2 : w1.cell? ⟨w.heap.size, 2, none⟩ = some (.int .i64 C) := O.cell 2
        have ql := O.lt
        rw [HV.out]
        go_wp2_with fail
        go_quiet ((go_at_call 18; first | with_reducible exact quiet_left (HN.out _) | with_reducible exact quiet_left (HC.out _)))
        go_wp2_with fail
        go_ret
        exact ⟨ret_str HT.out.symm, bel_drewN L1 _⟩
    · rcases zC with zC | zC
      all_goals
        go_enter Tryd.func8, Tryd.ntmps8
        go_wp2_with fail
        refine (impl_sv _ _ _ _).mono ?_
        rintro e w1 ⟨rfl, hb1⟩
        have L1 := bel_trans (bel_alloc (Below.refl _ _) _) hb1
        have O := (Own.new w 25 #[.int .i64 N, .int .i64 3, .int .i64 C]).below hb1
        have q0 : w1.cell? ⟨w.heap.size, 0, none⟩ = some (.int .i64 N) := O.cell 0
        have q1 : w1.cell? ⟨w.heap.size, 1, none⟩ = some (.int .i64 3) := O.cell 1
        have q2 : w1.cell? ⟨w.heap.size, 2, none⟩ = some (.int .i64 C) := O.cell 2
        have ql := O.lt
        rw [HV.out]
        go_wp2_with fail
        go_quiet ((go_at_call 18; first | with_reducible exact quiet_left (HN.out _) | with_reducible exact quiet_left (HC.out _)))
        go_wp2_with fail
        go_ret
        exact ⟨ret_str HT.out.symm, bel_drewN L1 _⟩

set_option maxHeartbeats 4000000 in
theorem spec_st (n l c : Int) (w : World) : Calls Tryd.prog 6 #[.agg #[.int .i64 n, .int .i64 l, .int .i64 c]] w fun e w' => e = .returned (.string (shText n l c)) ∧ Below w.heap.size w w' := by
  cases hv : shB n l c
  · have HT := Lib.hid (show shText n l c = ByteArray.empty by simp [shText, hv])
    have HV := Lib.hid hv
    go_enter Tryd.func6, Tryd.ntmps6
    go_wp2_with fail
    refine (spec_sv _ _ _ _).mono ?_
    rintro e w1 ⟨rfl, hb1⟩
    have L1 := bel_trans (bel_alloc (Below.refl _ _) _) hb1
    rw [HV.out]
    go_wp2_with fail
    go_ret
    exact ⟨ret_str HT.out.symm, L1⟩
  · have HV := Lib.hid hv
    have hb := shB_true.1 hv
    obtain ⟨N, rfl⟩ := Int.eq_ofNat_of_zero_le (show 0 ≤ n by omega)
    obtain ⟨C, rfl⟩ := Int.eq_ofNat_of_zero_le (show 0 ≤ c by omega)
    have hN : N < 100 := by omega
    have hC : C < 100 := by omega
    have z1 : (decS N).size = 1 := dec1_size (by omega)
    have zC := dec_two hC
    have hl := sh_four hv
    clear hb
    have HT := Lib.hid (show shText N l C = decS N ++ (⟨#[115, 112, 100, 102]⟩ : ByteArray).extract l.toNat (l + 1).toNat ++ decS C by rw [shText, if_pos hv]; rfl)
    have HN := Lib.hid (fun w => spec_dec N hN w)
    have HC := Lib.hid (fun w => spec_dec C hC w)
    generalize shText N l C = T at *
    generalize decS N = a at *
    generalize decS C = b at *
    clear hv
    rcases hl with rfl | rfl | rfl | rfl
    · rcases zC with zC | zC
      all_goals
        go_enter Tryd.func6, Tryd.ntmps6
        go_wp2_with fail
        refine (spec_sv _ _ _ _).mono ?_
        rintro e w1 ⟨rfl, hb1⟩
        have L1 := bel_trans (bel_alloc (Below.refl _ _) _) hb1
        have O := (Own.new w 25 #[.int .i64 N, .int .i64 0, .int .i64 C]).below hb1
        have ew : IntKind.i64.wrap 1 = 1 := by decide
        have q0 : w1.cell? ⟨w.heap.size, 0, none⟩ = some (.int .i64 N) := O.cell 0
        have q1 : w1.cell? ⟨w.heap.size, 1, none⟩ = some (.int .i64 0) := O.cell 1
        have q2 : w1.cell? ⟨w.heap.size, 2, none⟩ = some (.int .i64 C) := O.cell 2
        have ql := O.lt
        rw [HV.out]
        go_wp2_with fail
        clear hb1
        (refine wp_region_bel (by kernel_rfl) (by kernel_rfl) ?_; (repeat (first | go_big_quiet_skip | (go_big_quiet_want; first | (go_big_quiet_op; go_big_quiet_on) | (unfold Oper.quiet; apply Exists.intro; refine ⟨fun wx hCx => ?_, ?_⟩; (focus (obtain ⟨hcx, hfx⟩ := bcell hCx; go_simp; first | done | exact rfl | (with_reducible exact (HN.out _).mono (fun _ _ hz => ⟨hz.1, bel_trans hCx hz.2⟩)) | (with_reducible exact (HC.out _).mono (fun _ _ hz => ⟨hz.1, bel_trans hCx hz.2⟩)) | exact (HN.out _).mono (fun _ _ hz => ⟨hz.1, bel_trans hCx hz.2⟩) | exact (HC.out _).mono (fun _ _ hz => ⟨hz.1, bel_trans hCx hz.2⟩))); simp only [Act.put, List.setIfInBounds_toArray, List.set_cons_zero, List.set_cons_succ]; go_big_quiet_on)))); refine wpQuiet_nil ?_; intro wq hCq)
        go_wp2_with fail
        go_ret
        exact ⟨ret_str HT.out.symm, bel_trans L1 hCq⟩
    · rcases zC with zC | zC
      all_goals
        go_enter Tryd.func6, Tryd.ntmps6
        go_wp2_with fail
        refine (spec_sv _ _ _ _).mono ?_
        rintro e w1 ⟨rfl, hb1⟩
        have L1 := bel_trans (bel_alloc (Below.refl _ _) _) hb1
        have O := (Own.new w 25 #[.int .i64 N, .int .i64 1, .int .i64 C]).below hb1
        have ew : IntKind.i64.wrap 2 = 2 := by decide
        have q0 : w1.cell? ⟨w.heap.size, 0, none⟩ = some (.int .i64 N) := O.cell 0
        have q1 : w1.cell? ⟨w.heap.size, 1, none⟩ = some (.int .i64 1) := O.cell 1
        have q2 : w1.cell? ⟨w.heap.size, 2, none⟩ = some (.int .i64 C) := O.cell 2
        have ql := O.lt
        rw [HV.out]
        go_wp2_with fail
        clear hb1
        (refine wp_region_bel (by kernel_rfl) (by kernel_rfl) ?_; (repeat (first | go_big_quiet_skip | (go_big_quiet_want; first | (go_big_quiet_op; go_big_quiet_on) | (unfold Oper.quiet; apply Exists.intro; refine ⟨fun wx hCx => ?_, ?_⟩; (focus (obtain ⟨hcx, hfx⟩ := bcell hCx; go_simp; first | done | exact rfl | (with_reducible exact (HN.out _).mono (fun _ _ hz => ⟨hz.1, bel_trans hCx hz.2⟩)) | (with_reducible exact (HC.out _).mono (fun _ _ hz => ⟨hz.1, bel_trans hCx hz.2⟩)) | exact (HN.out _).mono (fun _ _ hz => ⟨hz.1, bel_trans hCx hz.2⟩) | exact (HC.out _).mono (fun _ _ hz => ⟨hz.1, bel_trans hCx hz.2⟩))); simp only [Act.put, List.setIfInBounds_toArray, List.set_cons_zero, List.set_cons_succ]; go_big_quiet_on)))); refine wpQuiet_nil ?_; intro wq hCq)
        go_wp2_with fail
        go_ret
        exact ⟨ret_str HT.out.symm, bel_trans L1 hCq⟩
    · rcases zC with zC | zC
      all_goals
        go_enter Tryd.func6, Tryd.ntmps6
        go_wp2_with fail
        refine (spec_sv _ _ _ _).mono ?_
        rintro e w1 ⟨rfl, hb1⟩
        have L1 := bel_trans (bel_alloc (Below.refl _ _) _) hb1
        have O := (Own.new w 25 #[.int .i64 N, .int .i64 2, .int .i64 C]).below hb1
        have ew : IntKind.i64.wrap 3 = 3 := by decide
        have q0 : w1.cell? ⟨w.heap.size, 0, none⟩ = some (.int .i64 N) := O.cell 0
        have q1 : w1.cell? ⟨w.heap.size, 1, none⟩ = some (.int .i64 2) := O.cell 1
        have q2 : w1.cell? ⟨w.heap.size, 2, none⟩ = some (.int .i64 C) := O.cell 2
        have ql := O.lt
        rw [HV.out]
        go_wp2_with fail
        clear hb1
        (refine wp_region_bel (by kernel_rfl) (by kernel_rfl) ?_; (repeat (first | go_big_quiet_skip | (go_big_quiet_want; first | (go_big_quiet_op; go_big_quiet_on) | (unfold Oper.quiet; apply Exists.intro; refine ⟨fun wx hCx => ?_, ?_⟩; (focus (obtain ⟨hcx, hfx⟩ := bcell hCx; go_simp; first | done | exact rfl | (with_reducible exact (HN.out _).mono (fun _ _ hz => ⟨hz.1, bel_trans hCx hz.2⟩)) | (with_reducible exact (HC.out _).mono (fun _ _ hz => ⟨hz.1, bel_trans hCx hz.2⟩)) | exact (HN.out _).mono (fun _ _ hz => ⟨hz.1, bel_trans hCx hz.2⟩) | exact (HC.out _).mono (fun _ _ hz => ⟨hz.1, bel_trans hCx hz.2⟩))); simp only [Act.put, List.setIfInBounds_toArray, List.set_cons_zero, List.set_cons_succ]; go_big_quiet_on)))); refine wpQuiet_nil ?_; intro wq hCq)
        go_wp2_with fail
        go_ret
        exact ⟨ret_str HT.out.symm, bel_trans L1 hCq⟩
    · rcases zC with zC | zC
      all_goals
        go_enter Tryd.func6, Tryd.ntmps6
        go_wp2_with fail
        refine (spec_sv _ _ _ _).mono ?_
        rintro e w1 ⟨rfl, hb1⟩
        have L1 := bel_trans (bel_alloc (Below.refl _ _) _) hb1
        have O := (Own.new w 25 #[.int .i64 N, .int .i64 3, .int .i64 C]).below hb1
        have ew : IntKind.i64.wrap 4 = 4 := by decide
        have q0 : w1.cell? ⟨w.heap.size, 0, none⟩ = some (.int .i64 N) := O.cell 0
        have q1 : w1.cell? ⟨w.heap.size, 1, none⟩ = some (.int .i64 3) := O.cell 1
        have q2 : w1.cell? ⟨w.heap.size, 2, none⟩ = some (.int .i64 C) := O.cell 2
        have ql := O.lt
        rw [HV.out]
        go_wp2_with fail
        clear hb1
        (refine wp_region_bel (by kernel_rfl) (by kernel_rfl) ?_; (repeat (first | go_big_quiet_skip | (go_big_quiet_want; first | (go_big_quiet_op; go_big_quiet_on) | (unfold Oper.quiet; apply Exists.intro; refine ⟨fun wx hCx => ?_, ?_⟩; (focus (obtain ⟨hcx, hfx⟩ := bcell hCx; go_simp; first | done | exact rfl | (with_reducible exact (HN.out _).mono (fun _ _ hz => ⟨hz.1, bel_trans hCx hz.2⟩)) | (with_reducible exact (HC.out _).mono (fun _ _ hz => ⟨hz.1, bel_trans hCx hz.2⟩)) | exact (HN.out _).mono (fun _ _ hz => ⟨hz.1, bel_trans hCx hz.2⟩) | exact (HC.out _).mono (fun _ _ hz => ⟨hz.1, bel_trans hCx hz.2⟩))); simp only [Act.put, List.setIfInBounds_toArray, List.set_cons_zero, List.set_cons_succ]; go_big_quiet_on)))); refine wpQuiet_nil ?_; intro wq hCq)
        go_wp2_with fail
        go_ret
        exact ⟨ret_str HT.out.symm, bel_trans L1 hCq⟩

end Go.Proofs.YtgjogbljjpfadaaDoor
