/- The last shell tells the parity: the law returns true for all bytes. No condition. -/
import Derived.Test.YtgemocbpfbdnmaaImplGround
import Derived.Test.YtgemocbpfbdnmaaGroundTab
import Derived.Test.YtgemocbpfbdnmaaLaws7
namespace Go.Proofs.Ytgemocbpfbdnmaa.fnGroundParity
open Go.ChangeShapes Go.WideShapes Go.ChangeAt Go.RowKit Go.Deep Go.Joins
set_option linter.unusedVariables false
set_option maxRecDepth 100000

set_option maxHeartbeats 2000000 in
theorem walk (a : Option Addr) (n c : Nat) (W : World) (hnc : n ≤ c) (hcm : c ≤ maxLen) (hb : Bytes W W.heap.size a n) :
    Calls Try.prog 6 #[.slice a n c] W fun e W' => e = .returned (.bool true) ∧ Below W.heap.size W W' := by
  have hcm' := hcm
  unfold maxLen at hcm'
  by_cases hn : 1048576 < n
  · go_enter Try.func6, Try.ntmps6
    go_wp2_with fail
    go_ret
    exact ⟨rfl, (by repeat (first | exact Below.refl _ _ | assumption | refine bel_drewN ?_ _ | refine bel_drew ?_ | refine bel_alloc ?_ _ | refine bel_set ?_ (by simp; omega) _ | refine bel_set ?_ (by simp) _ | refine bel_trans ?_ (by assumption)))⟩
  · go_enter Try.func6, Try.ntmps6
    go_wp2_with fail
    refine (draw_ground _ _ _ _ hnc hcm hb).mono ?_
    rintro e w1 ⟨z, rfl, hz, hw1⟩
    clear hb
    have HS := Lib.hid (fun w => spec_ground z w)
    have HI := Lib.hid (fun w => impl_ground z w)
    have HI2 := Lib.hid (fun w => impl_ground (z - 1) w)
    have HO := Lib.hid (fun h0 h1 => @GL_odd z h0 h1)
    have H1 := Lib.hid (show z = 1 → paB (GL z) = 0 from fun h => by rw [h]; exact GL_one)
    have HD := Lib.hid (fun h0 h1 k hk => @GL_bd z h0 h1 k hk)
    have HB2 := Lib.hid (fun h => (@inB_true (z - 1) 1 118).2 h)
    have hle2 := GL_len (z - 1)
    have HB := Lib.hid (fun h => (@inB_true z 1 118).1 h)
    have hle := GL_len z
    generalize GL z = l at *
    generalize GL (z - 1) = m at *
    generalize inB z 1 118 = b at *
    generalize inB (z - 1) 1 118 = p at *
    go_wp2_with fail
    refine (HI.out _).mono ?_
    rintro e w2 ⟨v1, rfl, Q2, hb2⟩
    have L2 := bel_trans hw1 hb2
    clear hw1 hb2
    go_wp2_with fail
    refine (HS.out _).mono ?_
    rintro e w3 ⟨v0, rfl, P3, hb3⟩
    have L3 := bel_trans L2 hb3
    have Q3 := Q2.below hb3
    clear L2 hb3 Q2
    cases b
    · go_wp2_with fail
      refine (same_shells _ _ l _ Q3.at_ P3.at_).mono ?_
      rintro e w4 ⟨rfl, hb4⟩
      have P4 := P3.below hb4
      have Q4 := Q3.below hb4
      have L4 := bel_trans L3 hb4
      clear P3 Q3 L3 hb4
      go_wp2_with fail
      refine (same_shells _ _ l _ Q4.at_ P4.at_).mono ?_
      rintro e w5 ⟨rfl, hb5⟩
      go_wp2_with fail
      go_ret
      exact ⟨rfl, bel_trans L4 hb5⟩
    · have hzb := HB.out rfl
      go_wp2_with fail
      refine (same_shells _ _ l _ Q3.at_ P3.at_).mono ?_
      rintro e w4 ⟨rfl, hb4⟩
      have Q4 := Q3.below hb4
      have L4 := bel_trans L3 hb4
      clear P3 Q3 L3 hb4
      by_cases hz1 : z = 1
      · have hpa := H1.out hz1
        have hz2 : (z == 1) = true := by simp [hz1]
        clear hz1
        go_wp2_with fail
        refine (impl_pa _ l _ Q4.at_ (by omega)).mono ?_
        rintro e w5 ⟨rfl, hb5⟩
        rw [hpa]
        go_wp2_with fail
        go_ret
        exact ⟨rfl, bel_trans L4 hb5⟩
      · have hz2 : (z == 1) = false := by simp [hz1]
        have hpt := HB2.out (by omega)
        subst hpt
        have hodd := HO.out (by omega) (by omega)
        have hd := HD.out (by omega) (by omega)
        have ew : IntKind.i64.wrap (z - 1) = z - 1 := IntWalk.i64_in _ (by omega)
        have HODD := Lib.hid hodd
        clear hz1 hodd
        go_wp2_with fail
        refine (HI2.out _).mono ?_
        rintro e w5 ⟨v5, rfl, Q5, hb5⟩
        have L5 := bel_trans L4 hb5
        have Q4 := Q4.below hb5
        have ha := Q4.at_
        obtain ⟨A, c2, rfl, hc1, hc2, hcell⟩ := ha
        unfold maxLen at hc2
        clear hb5
        go_wp2_with fail
        go_loopg [10, 11] l.length (fun gk x i wr => ∃ k : Nat, gk = l.length - k ∧ k ≤ l.length ∧ i = .int .i64 k ∧ x = .bool (oddB l m k) ∧ Below w5.heap.size w5 wr)
        case atStart => exact ⟨0, rfl, by omega, rfl, rfl, Below.refl _ _⟩
        case round =>
          obtain ⟨k, rfl, hk, rfl, rfl, hbel⟩ := hrel
          by_cases hlt : k < l.length
          · obtain ⟨bb, off, s, rfl, hbl, hbw, hs, c0, c1, c2⟩ := sh_cells hcell hbel hlt
            have hlt' : (k : Int) < (l.length : Int) := by omega
            have hss : oddB l m (k + 1) = if elAt m s.1 s.2.1 < s.2.2 then decide (s.2.1 % 2 = 1) else oddB l m k := by rw [hs]; rfl
            have hdk := hd k hlt
            rw [← hs] at hdk
            have hat := (Q5.below hbel).at_
            have HEL := Lib.hid (fun w hv => el_at _ m s.1 s.2.1 w (hv : ShAt w w.heap.size v5 m))
            clear hs
            generalize elAt m s.1 s.2.1 = x at *
            have hrem : (s.2.1).tmod 2 = s.2.1 % 2 := Int.tmod_eq_emod_of_nonneg hdk.1
            by_cases hx : x < s.2.2
            · rw [if_pos hx] at hss
              have HT := Lib.hid hss
              clear hss
              go_wp2_with fail
              (refine wp_region_bel (by kernel_rfl) (by kernel_rfl) ?_; (repeat (first | go_big_quiet_skip | (go_big_quiet_want; first | (go_big_quiet_op; go_big_quiet_on) | (unfold Oper.quiet; apply Exists.intro; refine ⟨fun wx hCx => ?_, ?_⟩; (focus (obtain ⟨hcx, hfx⟩ := bcell hCx; go_simp; first | done | exact rfl | exact (HEL.out _ (hat.bel hCx)).mono (fun _ _ hz => ⟨hz.1, bel_trans hCx hz.2⟩))); simp only [Act.put, List.setIfInBounds_toArray, List.set_cons_zero, List.set_cons_succ]; go_big_quiet_on)))); refine wpQuiet_nil ?_; intro wq hCq)
              have c1 := (hCq.cell (p := ⟨bb, off + k * 3 + 1, none⟩) hbw).trans c1
              go_wp2_with fail
              go_roundg (l.length - (k + 1))
              case measure => omega
              case rel => exact ⟨k + 1, rfl, by omega, by go_num, by rw [HT.out]; first | rfl | (simp; done) | (rw [← hrem]; rfl), bel_trans hbel hCq⟩
            · rw [if_neg hx] at hss
              have HT := Lib.hid hss
              clear hss
              have hx' : decide (x < s.2.2) = false := decide_eq_false hx
              go_wp2_with fail
              (refine wp_region_bel (by kernel_rfl) (by kernel_rfl) ?_; (repeat (first | go_big_quiet_skip | (go_big_quiet_want; first | (go_big_quiet_op; go_big_quiet_on) | (unfold Oper.quiet; apply Exists.intro; refine ⟨fun wx hCx => ?_, ?_⟩; (focus (obtain ⟨hcx, hfx⟩ := bcell hCx; go_simp; first | done | exact rfl | exact (HEL.out _ (hat.bel hCx)).mono (fun _ _ hz => ⟨hz.1, bel_trans hCx hz.2⟩))); simp only [Act.put, List.setIfInBounds_toArray, List.set_cons_zero, List.set_cons_succ]; go_big_quiet_on)))); refine wpQuiet_nil ?_; intro wq hCq)
              go_wp2_with fail
              go_roundg (l.length - (k + 1))
              case measure => omega
              case rel => exact ⟨k + 1, rfl, by omega, by go_num, by rw [HT.out], bel_trans hbel hCq⟩
          · have hkm : k = l.length := by omega
            have hxy : (paB l != paB m) = oddB l m k := by
              have := HODD.out
              rw [hkm]
              rw [bne, ← Bool.not_not (oddB l m l.length), ← this]
              rfl
            have Q4 := Q4.below hbel
            have Q5 := Q5.below hbel
            have HX := Lib.hid hxy
            generalize oddB l m k = odd at *
            clear hkm hxy
            go_wp2_with fail
            refine (impl_pa _ l _ Q4.at_ (by omega)).mono ?_
            rintro e w6 ⟨rfl, hb6⟩
            have L6 := bel_trans (bel_trans L5 hbel) hb6
            have Q5 := Q5.below hb6
            go_wp2_with fail
            refine (impl_pa _ m _ Q5.at_ (by omega)).mono ?_
            rintro e w7 ⟨rfl, hb7⟩
            have hxy := HX.out
            generalize paB l = x at *
            generalize paB m = y at *
            cases odd
            · go_wp2_with fail
              go_ret
              exact ⟨rfl, bel_trans L6 hb7⟩
            · go_wp2_with fail
              go_ret
              exact ⟨rfl, bel_trans L6 hb7⟩

set_option maxRecDepth 100000 in
theorem lifted (os : Os) (started : os.Started) (H : Type) (enc : TypeId × Value → H) :
    ReturnsInHanded {} Try.checked os 6 .any (Rows.fnGroundParitySpec.pre6 enc Try.prog Try.f6 Rows.fnGroundParityRow.domain false) (Rows.fnGroundParitySpec.post enc Try.prog Try.f6 false true false false) := by
  refine returnsInHanded_of_change (C := Try.checked) own started (by kernel_rfl) Try.func6
    (ChangeSpec.witness6 (enc := enc) (C := Try.checked) false ⟨#[], #[.slice none 0 0], []⟩ 8 (by kernel_rfl) (by kernel_rfl) (by kernel_rfl) (by kernel_rfl)) ?_
  intro W base args ds gs before hval0 hW hcnd _
  have hval : ∀ (j : Nat) t v, Try.f6.params[j]? = some t → args[j]? = some v → Value.okWide Try.prog W .any base t v := hval0
  have hW' := hW
  have hlt := hW.lt
  obtain ⟨p, q, hA0, hV, rfl, hfz, hnd⟩ := hW
  have hA : DataW.TrodAll enc Try.prog W 0 (fun _ => true) true Try.f6.params.toList args.toList ds p := hA0
  rw [Try.params6] at hA hval
  obtain ⟨v0, vs0, d0, ds0, p0, q0, hargs, rfl, rfl, h0, r0⟩ := trodAll_cons hA
  obtain ⟨rfl, rfl, rfl⟩ := trodAll_nil r0
  obtain rfl : args = #[v0] := by cases args; simp_all
  obtain ⟨rfl, rfl⟩ := trodVars_none hV
  clear hA0 hval0 hA hfz hnd
  obtain ⟨a0, n0, c0, rfl, hnc0, hcm0, hb0⟩ := open_bytes Try.underlying22 Try.underlying5 (by kernel_rfl) (hval 0 22 v0 rfl rfl) h0 (fun x hx => hlt x (by simp [hx]))
  exact law_close laidOut (by kernel_rfl) rfl Try.underlying4 rfl rfl hW' (walk a0 n0 c0 W hnc0 hcm0 hb0)

theorem over : Rows.fnGroundParityRow.holds Try.pinned (OpenSpec.ofChange Rows.fnGroundParitySpec) :=
  OpenClaim.holds_of_wide 6 Try.f6 rfl rfl rfl rfl rfl rfl rfl ⟨rfl, rfl, rfl, rfl, rfl⟩ rfl rfl rfl rfl rfl (by kernel_rfl) Try.func6 (by kernel_rfl)
    (of_decide_eq_true (by kernel_rfl)) (by unfold Func.isWrapper; first | (rw [if_pos (by decide +kernel)]; kernel_rfl) | (rw [if_neg (by decide +kernel)]; exact ⟨rfl, rfl⟩))
    (fun os started H enc _ => lifted os started H enc)

theorem proved : Rows.FnGroundParitySaid := over

end Go.Proofs.Ytgemocbpfbdnmaa.fnGroundParity
