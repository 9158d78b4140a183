/- Weights are added up: the law returns true for all bytes. No condition. -/
import Derived.Test.YtjfeknfdpdfdeaaDrawTerms
namespace Go.Proofs.Ytjfeknfdpdfdeaa.fnTermsWeightParts
open Go.ChangeShapes Go.WideShapes Go.ChangeAt Go.RowKit Go.Deep Go.Joins
set_option linter.unusedVariables false

set_option maxHeartbeats 4000000 in
theorem walk (a : Option Addr) (n c : Nat) (a1 : Option Addr) (n1 c1 : Nat) (W : World) (hnc : n ≤ c) (hcm : c ≤ maxLen) (hb : Bytes W W.heap.size a n) (hnc1 : n1 ≤ c1) (hcm1 : c1 ≤ maxLen) (hb1 : Bytes W W.heap.size a1 n1) :
    Calls Try.prog 4 #[.slice a n c, .slice a1 n1 c1] W fun e W' => e = .returned (.bool true) ∧ Below W.heap.size W W' := by
  have hcm' := hcm
  have hcm1' := hcm1
  unfold maxLen at hcm' hcm1'
  by_cases hn : 1048576 < n
  · go_enter Try.func4, Try.ntmps4
    go_wp2_with fail
    go_ret
    exact ⟨rfl, (by repeat (first | exact Below.refl _ _ | assumption | refine bel_drewN ?_ _ | refine bel_drew ?_ | refine bel_alloc ?_ _ | refine bel_set ?_ (by simp; omega) _ | refine bel_set ?_ (by simp) _ | refine bel_trans ?_ (by assumption)))⟩
  · by_cases hn1 : 1048576 < n1
    · go_enter Try.func4, Try.ntmps4
      go_wp2_with fail
      go_ret
      exact ⟨rfl, (by repeat (first | exact Below.refl _ _ | assumption | refine bel_drewN ?_ _ | refine bel_drew ?_ | refine bel_alloc ?_ _ | refine bel_set ?_ (by simp; omega) _ | refine bel_set ?_ (by simp) _ | refine bel_trans ?_ (by assumption)))⟩
    · go_enter Try.func4, Try.ntmps4
      go_wp2_with fail
      refine (draw_terms _ _ _ _ hnc hcm hb).mono ?_
      rintro e w1 ⟨v, l, rfl, hl, ho, hw1⟩
      clear hb hb1
      go_wp2_with fail
      refine (impl_tsw _ l _ ho.at_ (by omega)).mono ?_
      rintro e w2 ⟨rfl, hw2⟩
      have L2 := bel_trans hw1 hw2
      have ho2 := ho.below hw2
      clear hw1 hw2 ho
      go_wp2_with fail
      refine (spec_tsw _ l _ ho2.at_ (by omega)).mono ?_
      rintro e w3 ⟨rfl, hw3⟩
      have L3 := bel_trans L2 hw3
      have ho3 := (ho2.below hw3).at_
      clear L2 hw3 ho2
      obtain ⟨E, hE⟩ : ∃ E, tswB l = E := ⟨_, rfl⟩
      rw [hE]
      by_cases hneg : E < 0
      · clear hE
        go_wp2_with fail
        go_ret
        exact ⟨rfl, (by repeat (first | exact Below.refl _ _ | assumption | refine bel_drewN ?_ _ | refine bel_drew ?_ | refine bel_alloc ?_ _ | refine bel_set ?_ (by simp; omega) _ | refine bel_set ?_ (by simp) _ | refine bel_trans ?_ (by assumption)))⟩
      · have hal : l.all okT = true := by
          cases h : l.all okT
          · exfalso; rw [tswB, h] at hE; simp at hE; omega
          · rfl
        have hEs : E = sumT l := by rw [← hE]; exact tsw_end hal
        have hsb := sumT_bd l
        have hsg := sumT_ge hal
        have hd4 : decide (E < 0) = false := by simp; omega
        obtain ⟨A, cp, hvv, hlc, hcm3, hrest⟩ := id ho3
        unfold maxLen at hcm3
        clear hrest
        subst hvv
        have hk : n1 % (l.length + 1) < l.length + 1 := Nat.mod_lt _ (by omega)
        have e1 : (n1 : Int).tmod ((l.length : Int) + 1) = ((n1 % (l.length + 1) : Nat) : Int) := rfl
        generalize n1 % (l.length + 1) = k at *
        have hk0 : (0 : Int) ≤ k := by omega
        have hk1 : (k : Int) ≤ l.length := by omega
        have hkc : (k : Int) ≤ cp := by omega
        have P1 := fun w => run_headP w A l.length cp (k : Int) (by omega) (by omega)
        have P2 := fun w => run_partP w A l.length cp (k : Int) (by omega) (by omega)
        rw [Int.toNat_natCast] at P1 P2
        have hat := ho3.take_ rfl (show k ≤ l.length by omega)
        have had := ho3.drop_ rfl (show k ≤ l.length by omega)
        have hsp : sumT l = sumT (l.take k) + sumT (l.drop k) := by rw [← sumT_append, List.take_append_drop]
        have hx : tswB (l.take k) = sumT (l.take k) := tsw_end (List.all_eq_true.2 fun t ht => List.all_eq_true.1 hal t (List.mem_of_mem_take ht))
        have hy : tswB (l.drop k) = sumT (l.drop k) := tsw_end (List.all_eq_true.2 fun t ht => List.all_eq_true.1 hal t (List.mem_of_mem_drop ht))
        have bx := sumT_bd (l.take k)
        have by_ := sumT_bd (l.drop k)
        have hlt : (l.take k).length ≤ 1048576 := by rw [List.length_take]; omega
        have hld : (l.drop k).length ≤ 1048576 := by rw [List.length_drop]; omega
        have HLT := Lib.hid hlt
        have HLD := Lib.hid hld
        obtain ⟨x, ex⟩ : ∃ x, sumT (l.take k) = x := ⟨_, rfl⟩
        obtain ⟨y, ey⟩ : ∃ y, sumT (l.drop k) = y := ⟨_, rfl⟩
        rw [ex] at hsp hx bx
        rw [ey] at hsp hy by_
        rw [hsp] at hEs hsb hsg
        have hx0 : 0 ≤ x := bx.1
        have hy0 : 0 ≤ y := by_.1
        have hxy : x + y ≤ 10000 := by omega
        have HPT := Lib.hid hx
        have HPD := Lib.hid hy
        have ew : IntKind.i64.wrap (x + y) = x + y := IntWalk.i64_in _ (by omega)
        have hge : decide ((l.length : Int) ≤ x + y) = true := by simp; omega
        clear hlt hld hx hy bx by_ ex ey hsp hE hsb hal hsg hneg
        subst hEs
        go_wp2_with fail
        have LB := L3
        (refine wp_region_bel (by kernel_rfl) (by kernel_rfl) ?_; (repeat (first | go_big_quiet_skip | (go_big_quiet_want; first | (go_big_quiet_op; go_big_quiet_on) | (unfold Oper.quiet; apply Exists.intro; refine ⟨fun wx hCx => ?_, ?_⟩; (focus (obtain ⟨hcx, hfx⟩ := bcell hCx; go_simp; first | done | exact rfl | (with_reducible exact (impl_tswz (hat.bel hCx) HLT.out HPT.out).mono (fun _ _ hz => ⟨hz.1, bel_trans hCx hz.2⟩)) | (with_reducible exact (impl_tswz (had.bel hCx) HLD.out HPD.out).mono (fun _ _ hz => ⟨hz.1, bel_trans hCx hz.2⟩)) | exact (impl_tswz (hat.bel hCx) HLT.out HPT.out).mono (fun _ _ hz => ⟨hz.1, bel_trans hCx hz.2⟩) | exact (impl_tswz (had.bel hCx) HLD.out HPD.out).mono (fun _ _ hz => ⟨hz.1, bel_trans hCx hz.2⟩))); simp only [Act.put, List.setIfInBounds_toArray, List.set_cons_zero, List.set_cons_succ]; go_big_quiet_on)))); refine wpQuiet_nil ?_; intro wq hCq)
        go_wp2_with fail
        go_ret
        exact ⟨rfl, (by repeat (first | exact Below.refl _ _ | assumption | refine bel_drewN ?_ _ | refine bel_drew ?_ | refine bel_alloc ?_ _ | refine bel_set ?_ (by simp; omega) _ | refine bel_set ?_ (by simp) _ | refine bel_trans ?_ (by assumption)))⟩

set_option maxRecDepth 100000 in
theorem lifted (os : Os) (started : os.Started) (H : Type) (enc : TypeId × Value → H) :
    ReturnsInHanded {} Try.checked os 4 .any (Rows.fnTermsWeightPartsSpec.pre6 enc Try.prog Try.f4 Rows.fnTermsWeightPartsRow.domain false) (Rows.fnTermsWeightPartsSpec.post enc Try.prog Try.f4 false true false false) := by
  refine returnsInHanded_of_change (C := Try.checked) own started (by kernel_rfl) Try.func4
    (ChangeSpec.witness6 (enc := enc) (C := Try.checked) false ⟨#[], #[.slice none 0 0, .slice none 0 0], []⟩ 8 (by kernel_rfl) (by kernel_rfl) (by kernel_rfl) (by kernel_rfl)) ?_
  intro W base args ds gs before hval0 hW hcnd _
  have hval : ∀ (j : Nat) t v, Try.f4.params[j]? = some t → args[j]? = some v → Value.okWide Try.prog W .any base t v := hval0
  have hW' := hW
  have hlt := hW.lt
  obtain ⟨p, q, hA0, hV, rfl, hfz, hnd⟩ := hW
  have hA : DataW.TrodAll enc Try.prog W 0 (fun _ => true) true Try.f4.params.toList args.toList ds p := hA0
  rw [Try.params4] at hA hval
  obtain ⟨v0, vs0, d0, ds0, p0, q0, hargs, rfl, rfl, h0, r0⟩ := trodAll_cons hA
  obtain ⟨v1, vs1, d1, ds1, p1, q1, rfl, rfl, rfl, h1, r1⟩ := trodAll_cons r0
  obtain ⟨rfl, rfl, rfl⟩ := trodAll_nil r1
  obtain rfl : args = #[v0, v1] := by cases args; simp_all
  obtain ⟨rfl, rfl⟩ := trodVars_none hV
  clear hA0 hval0 hA hfz hnd
  obtain ⟨a0, n0, c0, rfl, hnc0, hcm0, hb0⟩ := open_bytes Try.underlying29 Try.underlying5 (by kernel_rfl) (hval 0 29 v0 rfl rfl) h0 (fun x hx => hlt x (by simp [hx]))
  obtain ⟨a1, n1, c1, rfl, hnc1, hcm1, hb1⟩ := open_bytes Try.underlying29 Try.underlying5 (by kernel_rfl) (hval 1 29 v1 rfl rfl) h1 (fun x hx => hlt x (by simp [hx]))
  exact law_close laidOut (by kernel_rfl) rfl Try.underlying4 rfl rfl hW' (walk a0 n0 c0 a1 n1 c1 W hnc0 hcm0 hb0 hnc1 hcm1 hb1)

theorem over : Rows.fnTermsWeightPartsRow.holds Try.pinned (OpenSpec.ofChange Rows.fnTermsWeightPartsSpec) :=
  OpenClaim.holds_of_wide 4 Try.f4 rfl rfl rfl rfl rfl rfl rfl ⟨rfl, rfl, rfl, rfl, rfl⟩ rfl rfl rfl rfl rfl (by kernel_rfl) Try.func4 (by kernel_rfl)
    (of_decide_eq_true (by kernel_rfl)) (by unfold Func.isWrapper; first | (rw [if_pos (by decide +kernel)]; kernel_rfl) | (rw [if_neg (by decide +kernel)]; exact ⟨rfl, rfl⟩))
    (fun os started H enc _ => lifted os started H enc)

theorem proved : Rows.FnTermsWeightPartsSaid := over
end Go.Proofs.Ytjfeknfdpdfdeaa.fnTermsWeightParts
