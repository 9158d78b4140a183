/-
  The program's move of an electron.
-/
import Derived.Test.YtgemocbpfbdnmaaMapConf
import Derived.Test.YtgemocbpfbdnmaaSpecMove
namespace Go.Proofs.Ytgemocbpfbdnmaa
open Go.ChangeShapes Go.WideShapes Go.ChangeAt Go.RowKit Go.Deep Go.Joins
open Go.ChangeMaps (setBlock)
set_option linter.unusedVariables false
set_option maxRecDepth 100000

/-- the entries of a list of shells -/
def mapF (l : List Sh) : List (Pr × Int) := l.map (fun s => ((s.1, s.2.1), s.2.2))
theorem mapF_step {c : List Sh} (hs : SortedL c) {k : Nat} (hk : k < c.length) : putF (mapF (c.take k)) ((c.getD k sh0).1, (c.getD k sh0).2.1) (c.getD k sh0).2.2 = mapF (c.take (k + 1)) := by
  have hx : c.getD k sh0 = c[k] := by simp [List.getD, List.getElem?_eq_getElem hk]
  rw [hx, (putF_none (q := (c[k].1, c[k].2.1)) (v := c[k].2.2) (fun p hp e => ?_)).1]
  · rw [List.take_succ_eq_append_getElem hk]
    simp only [mapF, List.map_append, List.map_cons, List.map_nil]
  · simp only [mapF, List.mem_map] at hp
    obtain ⟨s, hs1, rfl⟩ := hp
    obtain ⟨i, hi, rfl⟩ := List.mem_take_iff_getElem.1 hs1
    unfold SortedL at hs
    rw [List.pairwise_iff_getElem] at hs
    have := hs i k (by omega) hk (by omega)
    simp only [Prod.mk.injEq] at e
    simp [lessB] at this
    omega
theorem mapF_get {c : List Sh} (hc : cfgB c = true) (q : Pr) : getF (mapF c) q = elF c q := by
  have hs := cfg_sorted hc
  have hnd : ((mapF c).map (·.1)).Nodup := by
    simp only [mapF, List.map_map]
    unfold SortedL at hs
    refine List.pairwise_map.2 (hs.imp fun {a b} h => ?_)
    simp only [Function.comp_apply]
    intro e
    simp only [Prod.mk.injEq] at e
    simp [lessB] at h
    omega
  have hm : ∀ s, s ∈ c ↔ ((s.1, s.2.1), s.2.2) ∈ mapF c := fun s => by
    simp only [mapF, List.mem_map]
    constructor
    · exact fun h => ⟨s, h, rfl⟩
    · rintro ⟨t, ht, e⟩
      simp only [Prod.mk.injEq] at e
      rwa [show s = t from Prod.ext e.1.1.symm (Prod.ext e.1.2.symm e.2.symm)]
  have hg := cfg_Gd hc
  by_cases h : getF (mapF c) q = 0
  · rw [h]
    refine Decidable.byContradiction fun hne => hne ?_
    have h2 := (hg.2 (q.1, q.2, elF c q)).2 ⟨fun e => hne e.symm, rfl⟩
    have := getF_mem hnd ((hm _).1 h2)
    dsimp only at this
    rw [← this]
    exact h.symm
  · have := mem_getF h
    have h2 := (hm (q.1, q.2, getF (mapF c) q)).2 this
    exact ((hg.2 _).1 h2).2.symm
theorem elF_bd {c : List Sh} (hc : cfgB c = true) (q : Pr) : 0 ≤ elF c q ∧ elF c q ≤ 14 := by
  have hg := cfg_Gd hc
  by_cases h : elF c q = 0
  · omega
  · have := okSh_bd (cfg_mem hc ((hg.2 (q.1, q.2, elF c q)).2 ⟨h, rfl⟩))
    dsimp only at this
    omega

theorem putF_le (F : List (Pr × Int)) (q : Pr) (v : Int) : (putF F q v).length ≤ F.length + 1 := by
  induction F with
  | nil => simp [putF]
  | cons p F ih =>
    simp only [putF]
    split
    · simp
    · simp; omega
theorem move_fin {c : List Sh} {n l k m : Int} (hc : cfgB c = true) (hz : elAt c n l ≠ 0) (hne : (n, l) ≠ (k, m)) (F1 F2 : List (Pr × Int)) (z z2 : Int) (e1 : F1 = putF (mapF c) (n, l) (z - 1)) (ez : z = elAt c n l) (ez2 : z2 = getF F1 (k, m)) (e2 : F2 = putF F1 (k, m) (z2 + 1)) :
    (1 ≤ z ∧ z ≤ 14) ∧ (0 ≤ z2 ∧ z2 ≤ 14) ∧ F2.length ≤ c.length + 2 ∧ (nz F2).length ≠ 0 ∧ ∀ r, Gd r (getF F2) → (cfgB r = true → MoveR c n l k m r true) ∧ (cfgB r = false → MoveR c n l k m [] false) := by
  have hzb := elF_bd hc (n, l)
  have hz2b := elF_bd hc (k, m)
  have hzz : z = elF c (n, l) := ez
  have hz' : elF c (n, l) ≠ 0 := hz
  have hz2 : z2 = elF c (k, m) := by rw [ez2, e1, getF_putF, if_neg hne, mapF_get hc]
  have hf : ∀ q, getF F2 q = mvF (elF c) n l k m q := fun q => by
    rw [e2, e1, getF_putF, getF_putF, mapF_get hc, hz2, hzz]
    unfold mvF upd
    by_cases h1 : q = (k, m)
    · rw [if_pos h1.symm, if_pos h1, if_neg (Ne.symm hne)]
    · rw [if_neg (Ne.symm h1), if_neg h1]
      by_cases h2 : q = (n, l)
      · rw [if_pos h2.symm, if_pos h2]
      · rw [if_neg (Ne.symm h2), if_neg h2]
  refine ⟨by omega, by omega, ?_, ?_, fun r hr => ?_⟩
  · rw [e2, e1]
    have a := putF_le (mapF c) (n, l) (z - 1)
    have b := putF_le (putF (mapF c) (n, l) (z - 1)) (k, m) (z2 + 1)
    have d : (mapF c).length = c.length := by simp [mapF]
    omega
  · have h1 : getF F2 (k, m) = z2 + 1 := by rw [e2, getF_putF, if_pos rfl]
    have h2 := mem_getF (F := F2) (q := (k, m)) (by omega)
    have h3 := (mem_nz (F := F2) (s := (k, m, getF F2 (k, m)))).2 ⟨by show getF F2 (k, m) ≠ 0; omega, h2⟩
    intro h0
    rw [List.eq_nil_of_length_eq_zero h0] at h3
    simp at h3
  · have hg := hr.congr hf
    refine ⟨fun h => .inl ⟨rfl, hc, hz, hne, hg, h⟩, fun h => .inr ⟨rfl, rfl, fun _ _ _ h' => ?_⟩⟩
    rw [(cfg_okF hg).2 h'] at h
    cases h

set_option maxHeartbeats 4000000 in
theorem impl_move (v : Value) (c : List Sh) (n l k m : Int) (w : World) (B : Nat) (hv : OwnSh w B v c) (hn : c.length ≤ 1048576)
    (hk1 : cfgB c = true → okKey (n, l)) (hk2 : okKey (k, m)) :
    Calls Try.prog 27 #[v, .int .i64 n, .int .i64 l, .int .i64 k, .int .i64 m] w (MoveEnd c n l k m w) := by
  have hv1 := (hv.alloc (.cells #[.int .i64 n, .int .i64 l] 52)).alloc (.cells #[.int .i64 k, .int .i64 m] 52)
  have L1 : Below w.heap.size w ((w.alloc (.cells #[.int .i64 n, .int .i64 l] 52)).alloc (.cells #[.int .i64 k, .int .i64 m] 52)) := (by repeat (first | exact Below.refl _ _ | assumption | refine bel_drewN ?_ _ | refine bel_drew ?_ | refine bel_alloc ?_ _ | refine bel_set ?_ (by simp; omega) _ | refine bel_set ?_ (by simp) _ | refine bel_trans ?_ (by assumption)))
  have O1 := (Own.new w 52 #[.int .i64 n, .int .i64 l]).alloc (.cells #[.int .i64 k, .int .i64 m] 52)
  have O2 := Own.new (w.alloc (.cells #[.int .i64 n, .int .i64 l] 52)) 52 #[.int .i64 k, .int .i64 m]
  rw [World.size_alloc] at O2
  cases hc : cfgB c
  · have HR := Lib.hid (show MoveR c n l k m [] false from .inr ⟨rfl, rfl, fun h => by rw [hc] at h; cases h⟩)
    clear hk1 hk2
    go_enter Try.func27, Try.ntmps27
    go_wp2_with fail
    refine (impl_cfg _ c _ hv1.at_).mono ?_
    rintro e w1 ⟨rfl, hb1⟩
    rw [hc]
    go_wp2_with fail
    exact bodyPost_ret (v := .tuple #[.slice none 0 0, .bool false]) (by simp [results, Try.results27, go_sem]) rfl ⟨_, [], false, rfl, OwnSh.nil _ _, bel_trans L1 hb1, HR.out, by simp⟩
  · have HC := Lib.hid hc
    have HK1 := Lib.hid (hk1 hc)
    have HK2 := Lib.hid hk2
    have hfail : elAt c n l = 0 ∨ (n, l) = (k, m) → MoveR c n l k m [] false := fun h => .inr ⟨rfl, rfl, fun _ h1 h2 => by rcases h with h | h <;> contradiction⟩
    have HF := Lib.hid hfail
    clear hfail hk1 hk2
    go_enter Try.func27, Try.ntmps27
    go_wp2_with fail
    refine (impl_cfg _ c _ hv1.at_).mono ?_
    rintro e w1 ⟨rfl, hb1⟩
    rw [HC.out]
    clear hc
    have OB1 := O1.below hb1
    have OB2 := O2.below hb1
    have hv2 := hv1.below hb1
    clear O1 O2
    have L2 := bel_trans L1 hb1
    have q0 := OB1.cell 0
    have q1 := OB1.cell 1
    have q2 := OB2.cell 0
    have q3 := OB2.cell 1
    have q4 := OB1.lt
    have q5 := OB2.lt
    clear hv hv1 L1 hb1
    obtain ⟨b, hb⟩ : ∃ b, w1.heap.size = b := ⟨_, rfl⟩
    have hmk : (Instr.makeMap 49 none).run Try.prog w1 = .ok (.map (some b)) (w1.alloc (.map #[] 0)) := by rw [← hb]; exact run_makeMap _ w1
    have hM0 := MapL.made w1
    rw [hb] at hM0
    have OC1 := OB1.alloc (.map #[] 0)
    have OC2 := OB2.alloc (.map #[] 0)
    clear OB1 OB2
    have hv3 := hv2.alloc (.map #[] 0)
    have L3 := bel_alloc L2 (.map #[] 0)
    have hlt := hM0.lt
    have hba : w.heap.size ≤ b := by omega
    have hab : w.heap.size + 1 < b := by omega
    have hvf : v.ownBlock = none ∨ v.ownBlock ≠ some b := by
      cases e : v.ownBlock with
      | none => exact .inl rfl
      | some k => exact .inr fun e' => by injection e' with e'; have := (World.ownsRow.lt hv2 k e).2; omega
    obtain ⟨z, ez⟩ : ∃ z, z = elAt c n l := ⟨_, rfl⟩
    obtain ⟨F1, e1⟩ : ∃ F1, F1 = putF (mapF c) (n, l) (z - 1) := ⟨_, rfl⟩
    obtain ⟨z2, ez2⟩ : ∃ z2, z2 = getF F1 (k, m) := ⟨_, rfl⟩
    obtain ⟨F2, e2⟩ : ∃ F2, F2 = putF F1 (k, m) (z2 + 1) := ⟨_, rfl⟩
    have HFIN := Lib.hid (fun hz hne => @move_fin c n l k m HC.out hz hne F1 F2 z z2 e1 ez ez2 e2)
    have HZ := Lib.hid (show getF (mapF c) (n, l) = z by rw [mapF_get HC.out, ez]; rfl)
    have HZ2 := Lib.hid ez2.symm
    have HE1 := Lib.hid e1.symm
    have HE2 := Lib.hid e2.symm
    have HEZ := Lib.hid ez
    have ha := hv3.at_
    obtain ⟨A, cp, rfl, hlc, hcm, _⟩ := ha
    unfold maxLen at hcm
    clear ez e1 ez2 e2
    have hcs : (n = k ∧ l = m) ∨ (n = k ∧ ¬ l = m ∧ Hid ((n, l) ≠ (k, m))) ∨ (¬ n = k ∧ Hid ((n, l) ≠ (k, m))) := by
      by_cases h1 : n = k
      · by_cases h2 : l = m
        · exact .inl ⟨h1, h2⟩
        · exact .inr (.inl ⟨h1, h2, Lib.hid (fun e => h2 (by injection e))⟩)
      · exact .inr (.inr ⟨h1, Lib.hid (fun e => h1 (by injection e))⟩)
    rcases hcs with ⟨h1, h2⟩ | ⟨h1, h2, HNE⟩ | ⟨h1, HNE⟩
    · have HR := Lib.hid (HF.out (.inr (by rw [h1, h2])))
      subst h1 h2
      go_wp2_with fail
      exact bodyPost_ret (v := .tuple #[.slice none 0 0, .bool false]) (by simp [results, Try.results27, go_sem]) rfl ⟨_, [], false, rfl, OwnSh.nil _ _, L2, HR.out, by simp⟩
    all_goals
      try subst h1
      go_wp2_with fail
      go_loopg [35] c.length (fun gk i wr => ∃ j : Nat, gk = c.length - j ∧ j ≤ c.length ∧ i = .int .i64 j ∧ MapL wr b (mapF (c.take j)) ∧ (w1.alloc (.map #[] 0)).grownBy wr (some b))
      case atStart => exact ⟨0, rfl, by omega, rfl, hM0, own_refl _ _⟩
      case round =>
        clear hM0 q0 q1 q2 q3 q4 q5 hv2
        obtain ⟨j, rfl, hj, rfl, hM, hgr⟩ := hrel
        by_cases hlt2 : j < c.length
        · have hp := (hv3.kept hgr hvf).at_
          obtain ⟨A', c', ee, _, _, hcc⟩ := hp
          injection ee with ee2 ee3 ee4
          subst ee2
          obtain ⟨b', off, s, rfl, hbl, hbw, hs, c0, c1, c2⟩ := sh_cells hcc (Below.refl _ _) hlt2
          clear ee3 ee4 hcc
          have hlt' : (j : Int) < c.length := by omega
          have hst := mapF_step (cfg_sorted HC.out) hlt2
          have hsb := okSh_bd (cfg_sh HC.out hlt2)
          rw [← hs] at hst hsb
          clear hs
          obtain ⟨W, hW⟩ : ∃ W, wr.alloc (Obj.cells #[Value.int IntKind.i64 s.1, Value.int IntKind.i64 s.2.1, Value.int IntKind.i64 s.2.2] 29) = W := ⟨_, rfl⟩
          have hMW : MapL W b (mapF (c.take j)) := hW ▸ hM.alloc _
          have hgW := only_alloc hgr (Obj.cells #[Value.int IntKind.i64 s.1, Value.int IntKind.i64 s.2.1, Value.int IntKind.i64 s.2.2] 29)
          rw [hW] at hgW
          obtain ⟨o2, k4, hM3⟩ := hMW.store shTy (q := (s.1, s.2.1)) (by unfold okKey; dsimp only; omega) s.2.2
          have hg3 := only_trans hgW (grown_set W b o2)
          obtain ⟨W3, hW3⟩ : ∃ W3, setBlock W b o2 = W3 := ⟨_, rfl⟩
          rw [hW3] at k4 hM3 hg3
          have k4 : (Instr.mapUpdate 49 (.map (some b)) (.agg #[.int .i64 s.1, .int .i64 s.2.1]) (.int .i64 s.2.2)).run Try.prog W = .ok () W3 := k4
          rw [← hW] at k4
          rw [hst] at hM3
          have HM3 := Lib.hid hM3
          clear hst hW hW3 hM3 hMW
          go_wp2_with fail
          go_roundg (c.length - (j + 1))
          case measure => omega
          case rel => exact ⟨j + 1, rfl, by omega, by go_num, HM3.out, hg3⟩
        · have hjc : j = c.length := by omega
          have hM : MapL wr b (mapF c) := by rw [hjc, List.take_length] at hM; exact hM
          have O1 := OC1.pick hgr (by omega)
          have O2 := OC2.pick hgr (by omega)
          have hbel := bel_own L3 hba hgr
          have q0 := O1.cell 0
          have q1 := O1.cell 1
          have q2 := O2.cell 0
          have q3 := O2.cell 1
          have q4 := O1.lt
          have q5 := O2.lt
          have k0 := hM.look shTy HK1.out
          rw [HZ.out] at k0
          dsimp only [keyV] at k0
          clear hjc
          by_cases hz0 : z = 0
          · have HR := Lib.hid (HF.out (.inl (by rw [← HEZ.out]; exact hz0)))
            have hzb : (z == 0) = true := by simp [hz0]
            clear hz0
            go_wp2_with fail
            exact bodyPost_ret (v := .tuple #[.slice none 0 0, .bool false]) (by simp [results, Try.results27, go_sem]) rfl ⟨_, [], false, rfl, OwnSh.nil _ _, hbel, HR.out, by simp⟩
          · have hzb : (z == 0) = false := by simp [hz0]
            obtain ⟨hzz, hzz2, hfl, hnn, hfin⟩ := HFIN.out (by rw [← HEZ.out]; exact hz0) HNE.out
            have HFN := Lib.hid hfin
            have ew1 : IntKind.i64.wrap (z - 1) = z - 1 := IntWalk.i64_in _ (by omega)
            have ew2 : IntKind.i64.wrap (z2 + 1) = z2 + 1 := IntWalk.i64_in _ (by omega)
            clear hz0 hfin
            have k1 := hM.drew.look shTy HK1.out
            obtain ⟨st, o1, k2, hM2, hst⟩ := hM.drew.entry shTy HK1.out
            obtain ⟨W2, hW2⟩ : ∃ W2, setBlock wr.drew b o1 = W2 := ⟨_, rfl⟩
            have hg2 := only_trans (only_drew hgr) (grown_set wr.drew b o1)
            rw [hW2] at k2 hM2 hst hg2
            have k3 := hM2.look shTy HK1.out
            obtain ⟨o2, k4, hM3⟩ := hst W2 (z - 1) rfl
            have hg3 := only_trans hg2 (grown_set W2 b o2)
            obtain ⟨W3, hW3⟩ : ∃ W3, setBlock W2 b o2 = W3 := ⟨_, rfl⟩
            rw [hW3] at k4 hM3 hg3
            rw [getF_addF] at k3
            rw [HZ.out] at k1 k2 k3
            rw [HE1.out] at hM3
            dsimp only [keyV, goInt] at k1 k2 k3 k4
            have HM3 := Lib.hid hM3
            clear hW2 hW3 hst hM2 hM hM3
            go_wp2_with fail
            go_region
            have hM3 := HM3.out
            have O2 := OC2.pick hg3 (by omega)
            have q2 := O2.cell 0
            have q3 := O2.cell 1
            have q5 := O2.lt
            clear k0 k1 k2 k3 k4 q0 q1 q4 hg2
            have k1 := hM3.drew.look shTy HK2.out
            obtain ⟨st2, o4, k2, hM4, hst⟩ := hM3.drew.entry shTy HK2.out
            obtain ⟨W5, hW5⟩ : ∃ W5, setBlock W3.drew b o4 = W5 := ⟨_, rfl⟩
            have hg5 := only_trans (only_drew hg3) (grown_set W3.drew b o4)
            rw [hW5] at k2 hM4 hst hg5
            have k3 := hM4.look shTy HK2.out
            obtain ⟨o5, k4, hM6⟩ := hst W5 (z2 + 1) rfl
            have hg6 := only_trans hg5 (grown_set W5 b o5)
            obtain ⟨W6, hW6⟩ : ∃ W6, setBlock W5 b o5 = W6 := ⟨_, rfl⟩
            rw [hW6] at k4 hM6 hg6
            rw [getF_addF] at k3
            rw [HZ2.out] at k1 k2 k3
            rw [HE2.out] at hM6
            dsimp only [keyV, goInt] at k1 k2 k3 k4
            have HM6 := Lib.hid hM6
            clear hW5 hW6 hst hM4 hM3 hM6
            go_wp2_with fail
            go_region
            have L6 := bel_own L3 hba hg6
            clear k1 k2 k3 k4
            go_wp2_with fail
            refine (impl_conf b F2 _ HM6.out (by omega) hnn).mono ?_
            rintro e w7 ⟨v7, r, rfl, hown7, hb7, hgd, hrl⟩
            have L7 := bel_trans L6 hb7
            obtain ⟨f1, f2⟩ := HFN.out r hgd
            have H1 := Lib.hid f1
            have H2 := Lib.hid f2
            have hown7 := hown7.less L6.size
            clear f1 f2 hgd hb7
            go_wp2_with fail
            refine (impl_cfg _ r _ hown7.at_).mono ?_
            rintro e w8 ⟨rfl, hb8⟩
            have hown8 := hown7.below hb8
            have L8 := bel_trans L7 hb8
            cases hr4 : cfgB r
            · have HR := Lib.hid (H2.out hr4)
              go_wp2_with fail
              exact bodyPost_ret (v := .tuple #[.slice none 0 0, .bool false]) (by simp [results, Try.results27, go_sem]) rfl ⟨_, [], false, rfl, OwnSh.nil _ _, L8, HR.out, by simp⟩
            · have HR := Lib.hid (H1.out hr4)
              go_wp2_with fail
              exact bodyPost_ret (v := .tuple #[v7, .bool true]) (by simp [results, Try.results27, go_sem]) rfl ⟨_, r, true, rfl, hown8, L8, HR.out, by omega⟩

end Go.Proofs.Ytgemocbpfbdnmaa
