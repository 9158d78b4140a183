/- Shells are written one by one: the law returns true for all bytes. No condition but the tables of the library that the row lists. -/
import Derived.Test.YtgjogbljjpfadaaDoorConfText
import Derived.Test.YtgjogbljjpfadaaDoorDrawConfs
import Derived.Test.YtgjogbljjpfadaaDoorDoorText
namespace Go.Proofs.YtgjogbljjpfadaaDoor.fnConfigTextFirst
open Go.ChangeShapes Go.WideShapes Go.ChangeAt Go.RowKit Go.Deep Go.Joins
set_option linter.unusedVariables false
set_option maxRecDepth 100000

theorem getD_take (c : List Sh) {k j : Nat} (h : j < k) : (c.take k).getD j sh0 = c.getD j sh0 := by
  simp only [List.getD, List.getElem?_take]
  rw [if_pos h]
theorem okUp_take (c : List Sh) (k : Nat) : ∀ j, j ≤ k → okUp (c.take k) j = okUp c j := by
  intro j
  induction j with
  | zero => intro _; rfl
  | succ j ih =>
    intro h
    simp only [okUp, okAt]
    rw [ih (by omega), getD_take c (by omega)]
    by_cases h0 : j = 0
    · simp [h0]
    · rw [getD_take c (show j - 1 < k by omega)]
theorem cfg_take {c : List Sh} (h : cfgB c = true) {k : Nat} (h0 : 0 < k) (hk : k < c.length) : cfgB (c.take k) = true := by
  unfold cfgB at h ⊢
  rw [Bool.and_eq_true] at h
  have hl : (c.take k).length = k := by rw [List.length_take]; omega
  rw [hl, okUp_take c k k (Nat.le_refl _), okUp_le c (by omega) h.1, decide_eq_true h0]
  rfl
theorem first_law {c : List Sh} (hc : cfgB c = true) {k : Nat} (h0 : 0 < k) (hk : k ≤ c.length) :
    ∃ X Y : ByteArray, cT (c.take k) = X ∧ txt (c.getD (c.length - 1) sh0) = Y ∧ 1 ≤ X.size ∧ X.size ≤ (cT c).size ∧ Y.size ≤ (cT c).size ∧ (cT c).extract 0 X.size = X ∧ (cT c).extract ((cT c).size - Y.size) (cT c).size = Y := by
  have hck : cfgB (c.take k) = true := by
    by_cases e : k = c.length
    · rw [e, List.take_length]; exact hc
    · exact cfg_take hc h0 (by omega)
  have hlen : (c.take k).length = k := by rw [List.length_take]; omega
  have hX : cT (c.take k) = ctUp c k := by
    unfold cT
    rw [if_pos hck, hlen, ctUp_take c k k (Nat.le_refl _)]
  have hT : cT c = ctUp c c.length := by unfold cT; rw [if_pos hc]
  obtain ⟨r, hr⟩ := ctUp_pre c k c.length hk
  have hpos := cfg_pos hc
  obtain ⟨r', hr'⟩ := ctUp_last c (c.length - 1)
  rw [show c.length - 1 + 1 = c.length by omega] at hr'
  have hx1 : 1 ≤ (ctUp c k).size := by
    obtain ⟨j, rfl⟩ : ∃ j, k = j + 1 := ⟨k - 1, by omega⟩
    obtain ⟨q, hq⟩ := ctUp_last c j
    rw [hq, ByteArray.size_append]
    have := sh_pos (cfg_sh hc (show j < c.length by omega))
    unfold txt
    omega
  refine ⟨_, _, rfl, rfl, ?_, ?_, ?_, ?_, ?_⟩
  · rw [hX]; exact hx1
  · rw [hX, hT, hr, ByteArray.size_append]; omega
  · rw [hT, hr', ByteArray.size_append]; omega
  · rw [hX, hT, hr]; exact ext_pre _ _
  · rw [hT, hr']
    have := ext_suf r' (txt (c.getD (c.length - 1) sh0))
    rw [show (r' ++ txt (c.getD (c.length - 1) sh0)).size - (txt (c.getD (c.length - 1) sh0)).size = r'.size by rw [ByteArray.size_append]; omega]
    exact this

set_option maxHeartbeats 4000000 in
theorem walk (a : Option Addr) (n c0 : Nat) (a1 : Option Addr) (n1 c1 : Nat) (W : World) (hnc : n ≤ c0) (hcm : c0 ≤ maxLen) (hb : Bytes W W.heap.size a n) (hnc1 : n1 ≤ c1) (hcm1 : c1 ≤ maxLen) (hb1 : Bytes W W.heap.size a1 n1) :
    Calls Tryd.prog 5 #[.slice a n c0, .slice a1 n1 c1] W fun e W' => e = .returned (.bool true) ∧ Below W.heap.size W W' := by
  have hcm' := hcm
  have hcm1' := hcm1
  unfold maxLen at hcm' hcm1'
  by_cases hn : 1048576 < n
  · go_enter Tryd.func5, Tryd.ntmps5
    go_wp2_with fail
    go_ret
    exact ⟨rfl, (by repeat (first | exact Below.refl _ _ | assumption | refine bel_drewN ?_ _ | refine bel_drew ?_ | refine bel_alloc ?_ _ | refine bel_set ?_ (by simp; omega) _ | refine bel_set ?_ (by simp) _ | refine bel_trans ?_ (by assumption)))⟩
  by_cases hn1 : 1048576 < n1
  · go_enter Tryd.func5, Tryd.ntmps5
    go_wp2_with fail
    go_ret
    exact ⟨rfl, (by repeat (first | exact Below.refl _ _ | assumption | refine bel_drewN ?_ _ | refine bel_drew ?_ | refine bel_alloc ?_ _ | refine bel_set ?_ (by simp; omega) _ | refine bel_set ?_ (by simp) _ | refine bel_trans ?_ (by assumption)))⟩
  go_enter Tryd.func5, Tryd.ntmps5
  go_wp2_with fail
  refine (draw_conf_text _ _ _ _ hnc hcm hb).mono ?_
  rintro e w1 ⟨v, c, rfl, hl, ho, hw1⟩
  clear hb hb1
  obtain ⟨T, hT⟩ : ∃ T, cT c = T := ⟨_, rfl⟩
  go_wp2_with fail
  refine (impl_ct _ c _ ho.at_ (by omega)).mono ?_
  rintro e w2 ⟨rfl, hw2⟩
  have L2 := bel_trans hw1 hw2
  have ho2 := ho.below hw2
  clear hw1 hw2 ho
  rw [hT]
  go_wp2_with fail
  refine (spec_ct _ c _ ho2.at_ (by omega)).mono ?_
  rintro e w3 ⟨rfl, hw3⟩
  have L3 := bel_trans L2 hw3
  have ho3 := ho2.below hw3
  clear L2 hw3 ho2
  rw [hT]
  cases hc : cfgB c
  · have hE : T = ByteArray.empty := by rw [← hT]; simp [cT, hc]
    subst hE
    have he : (ByteArray.empty == (⟨#[]⟩ : ByteArray)) = true := rfl
    clear hT
    go_wp2_with fail
    go_ret
    exact ⟨rfl, L3⟩
  · have hp := cfg_pos hc
    have hr := Nat.mod_lt n1 hp
    obtain ⟨X, Y, hX, hY, x1, x2, x3, x4, x5⟩ := first_law hc (k := n1 % c.length + 1) (by omega) (by omega)
    rw [hT] at x2 x3 x4 x5
    have hTs : T.size ≤ 400 := by
      have := ctUp_size c c.length
      rw [← hT]; unfold cT; rw [if_pos hc]; omega
    have hne : T.toList.isEmpty = false := by
      rw [Lib.toList_data]
      cases hd : T.data.toList with
      | nil =>
        have h1 : T.size = 0 := by rw [Lib.size_eq, hd]; rfl
        omega
      | cons x r => rfl
    have hf := ho3.free
    rcases hf with ⟨_, h00⟩ | ⟨g, cap, cur, hgb, hBg, rfl, hcp, hcm2, hcur, hsz⟩
    · omega
    have hg3 := hcur.lt
    unfold maxLen at hcm2
    obtain ⟨s, hs⟩ : ∃ s, c.getD (c.length - 1) sh0 = s := ⟨_, rfl⟩
    have hgs := getD_of (show c.length - 1 < c.length by omega)
    rw [hs] at hgs hY
    have HY := Lib.hid (show shText s.1 s.2.1 s.2.2 = Y from hY)
    have e1 : (n1 : Int).tmod c.length = ((n1 % c.length : Nat) : Int) := rfl
    have hX2 : cT (c.take (n1 % c.length + 1)) = X := hX
    have htk := ho3.take_at hcp (k := n1 % c.length + 1) (by omega)
    have HX := Lib.hid hX2
    generalize n1 % c.length = r at *
    have htl : (c.take (r + 1)).length = r + 1 := by rw [List.length_take]; omega
    have HTL := Lib.hid htl
    have ek : IntKind.i64.wrap (1 + (r : Int)) = (r : Int) + 1 := by rw [IntWalk.i64_in _ (by omega)]; omega
    have hkn : ((r : Int) + 1).toNat = r + 1 := by omega
    have hk4 : (0 : Int) ≤ (r : Int) + 1 := by omega
    have hk3 : (r : Int) + 1 ≤ cap := by omega
    have el : IntKind.i64.wrap ((c.length : Int) - 1) = ((c.length - 1 : Nat) : Int) := by rw [IntWalk.i64_in _ (by omega)]; omega
    have hj' : ((c.length - 1 : Nat) : Int) < (c.length : Int) := by omega
    have et : IntKind.i64.wrap ((T.size : Int) - (Y.size : Int)) = ((T.size - Y.size : Nat) : Int) := by rw [IntWalk.i64_in _ (by omega)]; omega
    clear hX2 hX hY hs htl hT
    obtain ⟨r0, r1, r2⟩ := cells_own ho3 rfl hgs
    have HGS := Lib.hid hgs
    clear hgs
    go_wp2_with fail
    refine (impl_ct _ _ _ htk (by rw [HTL.out]; omega)).mono ?_
    rintro e w4 ⟨rfl, hw4⟩
    rw [HX.out]
    have L4 := bel_trans L3 hw4
    have ho4 := ho3.below hw4
    obtain ⟨r0, r1, r2⟩ := cells_own ho4 rfl HGS.out
    have hg4 := (World.ownsRow.lt ho4 g rfl).2
    clear htk ho3 hw4 L3 hcur
    go_wp2_with fail
    refine (impl_st _ _ _ _).mono ?_
    rintro e w5 ⟨rfl, hw5⟩
    rw [HY.out]
    have L5 := bel_trans L4 hw5
    have xi : (1 : Int) ≤ X.size := by omega
    have xi2 : (X.size : Int) ≤ T.size := by omega
    have yi : (Y.size : Int) ≤ T.size := by omega
    go_wp2_with fail
    go_ret
    exact ⟨rfl, L5⟩

set_option maxRecDepth 100000 in
theorem lifted (os : Os) (started : os.Started) (H : Type) (enc : TypeId × Value → H) :
    ReturnsInHanded {} Tryd.checked os 5 .any (fun w args => (Rows.fnConfigTextFirstSpec.pre enc Tryd.prog Tryd.f5 [] false w args ∧ laidMetH Tryd.prog laidL w) ∧ sizedMet enc Tryd.prog Tryd.f5 (OpenSpec.ofChange Rows.fnConfigTextFirstSpec) false w args)
      (Rows.fnConfigTextFirstSpec.post enc Tryd.prog Tryd.f5 false true false false) := by
  refine returnsInHanded_of_change_and (C := Tryd.checked) (X := fun w _ => laidMetH Tryd.prog laidL w) (fun _ _ _ hh h => h.of_heap hh) own started (by kernel_rfl) Tryd.func5
    (ChangeSpec.witness_shaped (enc := enc) (C := Tryd.checked) (os := os) (X := fun w _ => laidMetH Tryd.prog laidL w) false (World.doorLaid Tryd.prog 400 os) #[.slice none 0 0, .slice none 0 0] 8 rfl (World.shaped_of_RefB (by kernel_rfl) (by kernel_rfl)) (by kernel_rfl) (by kernel_rfl) (by kernel_rfl) (door_met os _)) ?_
  intro W base args ds gs before hval0 hW _ _ hL _
  have hval : ∀ (j : Nat) t v, Tryd.f5.params[j]? = some t → args[j]? = some v → Value.okWide Tryd.prog W .any base t v := hval0
  have hW' := hW
  have hlt := hW.lt
  obtain ⟨p, q, hA0, hV, rfl, hfz, hnd⟩ := hW
  have hA : DataW.TrodAll enc Tryd.prog W 0 (fun _ => true) true Tryd.f5.params.toList args.toList ds p := hA0
  rw [Tryd.params5] at hA hval
  obtain ⟨v0, vs0, d0, ds0, p0, q0, hargs, rfl, rfl, h0, r0⟩ := trodAll_cons hA
  obtain ⟨v1, vs1, d1, ds1, p1, q1, rfl, rfl, rfl, h1, r1⟩ := trodAll_cons r0
  obtain ⟨rfl, rfl, rfl⟩ := trodAll_nil r1
  obtain rfl : args = #[v0, v1] := by cases args; simp_all
  obtain ⟨rfl, rfl⟩ := trodVars_none hV
  clear hA0 hval0 hA hfz hnd
  obtain ⟨a0, n0, c0, rfl, hnc0, hcm0, hb0⟩ := open_bytes Tryd.underlying35 Tryd.underlying5 (by kernel_rfl) (hval 0 35 v0 rfl rfl) h0 (fun x hx => hlt x (by simp [hx]))
  obtain ⟨a1, n1, c1, rfl, hnc1, hcm1, hb1⟩ := open_bytes Tryd.underlying35 Tryd.underlying5 (by kernel_rfl) (hval 1 35 v1 rfl rfl) h1 (fun x hx => hlt x (by simp [hx]))
  exact law_close laidOut (by kernel_rfl) rfl Tryd.underlying4 rfl rfl hW' (walk a0 n0 c0 a1 n1 c1 W hnc0 hcm0 hb0 hnc1 hcm1 hb1)

theorem over : Rows.fnConfigTextFirstRow.holds Tryd.pinned (OpenSpec.ofChange Rows.fnConfigTextFirstSpec) :=
  OpenClaim.holds_of_wide 5 Tryd.f5 rfl rfl rfl rfl rfl rfl rfl ⟨rfl, rfl, rfl, rfl, rfl⟩ rfl rfl rfl rfl rfl (by kernel_rfl) Tryd.func5 (by kernel_rfl)
    (of_decide_eq_true (by kernel_rfl)) (by unfold Func.isWrapper; first | (rw [if_pos (by decide +kernel)]; kernel_rfl) | (rw [if_neg (by decide +kernel)]; exact ⟨rfl, rfl⟩))
    (fun os started H enc _ => lifted os started H enc)

theorem proved : Rows.FnConfigTextFirstCardSaid :=
  Claim7.holds_tied_plain_at .later [] [.data, .data, .data] true (true, "a963d52d5bddd32cb438fb29f90e6f478e7997d82a5fe9e3b317a2e838bc4ffd") false
    over (fun _ h => by cases h) (by kernel_rfl) (fun _ h => by cases h) fnConfigTextFirst_row_tie rfl ⟨rfl, rfl⟩ (by kernel_rfl) rfl
    (fun f fn hf hfn => by
      obtain rfl : f = 5 := Option.some.inj ((show Tryd.prog.funcNamed "loop.example/atomicspectra/laws.FnConfigTextFirst" = some 5 by kernel_rfl).symm.trans hf) |>.symm
      obtain rfl : fn = Tryd.f5 := (Option.some.inj (Tryd.func5.symm.trans hfn)).symm
      exact ⟨by kernel_rfl, fun j t ht => by
        rw [Tryd.params5] at ht
        have hm : t ∈ [35, 35] := by simpa using Array.mem_of_getElem? ht
        have hall : ([35, 35].all fun u => !Tryd.prog.wantsStandIn u) = true := by kernel_rfl
        exact (show Tryd.prog.wantsStandIn t = false by simpa using List.all_eq_true.1 hall t hm)⟩)
    (by kernel_rfl)
end Go.Proofs.YtgjogbljjpfadaaDoor.fnConfigTextFirst
