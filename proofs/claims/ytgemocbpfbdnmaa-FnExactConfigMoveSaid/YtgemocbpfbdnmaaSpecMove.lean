/-
  The reference's move of an electron.
-/
import Derived.Test.YtgemocbpfbdnmaaMoveRel
namespace Go.Proofs.Ytgemocbpfbdnmaa
open Go.ChangeShapes Go.WideShapes Go.ChangeAt Go.RowKit Go.Deep Go.Joins
set_option linter.unusedVariables false
set_option maxRecDepth 100000

/-- what a call that moves an electron leaves -/
def MoveEnd (c : List Sh) (n l k m : Int) (w : World) (e : Ending) (w' : World) : Prop := ∃ v r b, e = .returned (.tuple #[v, .bool b]) ∧ OwnSh w' w.heap.size v r ∧ Below w.heap.size w w' ∧ MoveR c n l k m r b ∧ r.length ≤ c.length + 2
theorem at_none {c : List Sh} {n l : Int} (h : ∀ k, k < c.length → ¬ ((c.getD k sh0).1 = n ∧ (c.getD k sh0).2.1 = l)) : elAt c n l = 0 := by
  refine el_none fun x hx => ?_
  obtain ⟨i, hi, rfl⟩ := List.mem_iff_getElem.1 hx
  have := h i hi
  simpa [List.getD, List.getElem?_eq_getElem hi] using this
theorem at_some {c : List Sh} {n l : Int} {k : Nat} (hc : cfgB c = true) (hk : k < c.length) (h1 : (c.getD k sh0).1 = n) (h2 : (c.getD k sh0).2.1 = l) : elAt c n l ≠ 0 := by
  have hx : c.getD k sh0 = c[k] := by simp [List.getD, List.getElem?_eq_getElem hk]
  rw [hx] at h1 h2
  have := okSh_bd (cfg_mem hc (List.getElem_mem hk))
  rw [el_some (cfg_sorted hc) (List.getElem_mem hk) h1 h2]
  omega
theorem give_bd {c r : List Sh} {n o : Int} (hc : cfgB c = true) (h : GiveR c n o (-1) r) : ∀ k, k < r.length → 0 ≤ (r.getD k sh0).2.2 ∧ (r.getD k sh0).2.2 ≤ 1000 ∨ (r.getD k sh0).2.2 = -1 := by
  intro k hk
  have hx : r.getD k sh0 = r[k] := by simp [List.getD, List.getElem?_eq_getElem hk]
  have hm : r[k] ∈ r := List.getElem_mem hk
  rw [hx]
  have hok : ∀ x ∈ c, 0 ≤ x.2.2 ∧ x.2.2 ≤ 1000 := fun x hx => by have := okSh_bd (cfg_mem hc hx); omega
  rcases h with ⟨_, rfl⟩ | ⟨j, hj, _, _, ⟨hp, rfl⟩ | ⟨hp, rfl⟩⟩
  · generalize (putS c (n, o, -1))[k] = y at *
    rw [putS_ins] at hm
    rcases mem_insS.1 hm with rfl | hm
    · exact .inr rfl
    · exact .inl (hok _ hm)
  · generalize (c.set j (n, o, (c.getD j sh0).2.2 + -1))[k] = y at *
    have hjx : c.getD j sh0 = c[j] := by simp [List.getD, List.getElem?_eq_getElem hj]
    have hb := hok _ (List.getElem_mem hj)
    rcases List.mem_or_eq_of_mem_set hm with hm | rfl
    · exact .inl (hok _ hm)
    · rw [hjx]; dsimp only; left; rw [hjx] at hp; omega
  · generalize (c.take j ++ c.drop (j + 1))[k] = y at *
    rcases List.mem_append.1 hm with hm | hm
    · exact .inl (hok _ (List.mem_of_mem_take hm))
    · exact .inl (hok _ (List.mem_of_mem_drop hm))

set_option maxHeartbeats 4000000 in
theorem spec_move (v : Value) (c : List Sh) (n l k m : Int) (w : World) (B : Nat) (hv : OwnSh w B v c) (hn : c.length ≤ 1048576) :
    Calls Try.prog 28 #[v, .int .i64 n, .int .i64 l, .int .i64 k, .int .i64 m] w (MoveEnd c n l k m w) := by
  cases hc : cfgB c
  · have HR := Lib.hid (show MoveR c n l k m [] false from .inr ⟨rfl, rfl, fun h => by rw [hc] at h; cases h⟩)
    go_enter Try.func28, Try.ntmps28
    go_wp2_with fail
    refine (spec_cfg _ c _ hv.at_).mono ?_
    rintro e w1 ⟨rfl, hb1⟩
    rw [hc]
    have E1 := (OwnSh.empty w1 w1.heap.size (Nat.le_refl _)).less hb1.size
    go_wp2_with fail
    exact bodyPost_ret (v := .tuple #[.slice (some ⟨w1.heap.size, 0, none⟩) 0 0, .bool false]) (by simp [results, Try.results28, go_sem]) rfl ⟨_, [], false, rfl, E1, bel_alloc hb1 _, HR.out, by simp⟩
  · have HC := Lib.hid hc
    go_enter Try.func28, Try.ntmps28
    go_wp2_with fail
    refine (spec_cfg _ c _ hv.at_).mono ?_
    rintro e w1 ⟨rfl, hb1⟩
    rw [HC.out]
    clear hc
    have hv1 := hv.below hb1
    go_wp2_with fail
    refine (spec_ix _ c _ _ _ hv1.at_).mono ?_
    rintro e w2 ⟨⟨r, rfl, hr⟩, hb2⟩
    have hv2 := hv1.below hb2
    have L2 := bel_trans hb1 hb2
    have E2 := (OwnSh.empty w2 w2.heap.size (Nat.le_refl _)).less L2.size
    clear hv hv1 hb1 hb2
    have hfail : elAt c n l = 0 ∨ (n, l) = (k, m) → MoveR c n l k m [] false := fun h => .inr ⟨rfl, rfl, fun _ h1 h2 => by rcases h with h | h <;> contradiction⟩
    rcases hr with ⟨rfl, hno⟩ | ⟨j, hj, rfl, hs1, hs2⟩
    · have HR := Lib.hid (hfail (.inl (at_none hno)))
      clear hfail hno
      go_wp2_with fail
      exact bodyPost_ret (v := .tuple #[.slice (some ⟨w2.heap.size, 0, none⟩) 0 0, .bool false]) (by simp [results, Try.results28, go_sem]) rfl ⟨_, [], false, rfl, E2, bel_alloc L2 _, HR.out, by simp⟩
    · have hne := at_some HC.out hj hs1 hs2
      have hj0 : decide ((j : Int) < 0) = false := decide_eq_false (by omega)
      have HNE := Lib.hid hne
      have HF := Lib.hid hfail
      clear hne hfail hs1 hs2
      by_cases hsame : n = k ∧ l = m
      · have HR := Lib.hid (HF.out (.inr (by rw [hsame.1, hsame.2])))
        have h1 : (n == k) = true := by simp [hsame.1]
        have h2 : (l == m) = true := by simp [hsame.2]
        clear hsame
        go_wp2_with fail
        exact bodyPost_ret (v := .tuple #[.slice (some ⟨w2.heap.size, 0, none⟩) 0 0, .bool false]) (by simp [results, Try.results28, go_sem]) rfl ⟨_, [], false, rfl, E2, bel_alloc L2 _, HR.out, by simp⟩
      · have HS := Lib.hid (show (n, l) ≠ (k, m) from fun e => by injection e with e1 e2; exact hsame ⟨e1, e2⟩)
        have hcb : ∀ k, k < c.length → 0 ≤ (c.getD k sh0).2.2 ∧ (c.getD k sh0).2.2 ≤ 1000 := fun k hk => by have := okSh_bd (cfg_sh HC.out hk); omega
        have HCB := Lib.hid hcb
        clear hcb
        have go : ∀ (h1 : (n == k) = false ∨ ((n == k) = true ∧ (l == m) = false)), True := fun _ => trivial
        clear go
        cases h1 : n == k
        all_goals (try cases h2 : l == m)
        case true.true => exact absurd ⟨by simpa using h1, by simpa using h2⟩ hsame
        all_goals
          clear hsame
          go_wp2_with fail
          refine (spec_give _ c _ _ _ _ _ hv2 (by omega) (by omega) HCB.out).mono ?_
          rintro e w3 ⟨v3, r3, rfl, hown3, hb3, hg3⟩
          have L3 := bel_trans L2 hb3
          have hl3 := hg3.len
          obtain ⟨r4, hg4'⟩ := give_ex r3 k m 1
          obtain ⟨e1, e2, e3⟩ := give_two HC.out HNE.out hg3 hg4'
          have hb3' : ∀ k, k < r3.length → 0 ≤ (r3.getD k sh0).2.2 ∧ (r3.getD k sh0).2.2 ≤ 1000 := fun j hj => by
            have h1 := give_bd HC.out hg3 j hj
            have hx : r3.getD j sh0 = r3[j] := by simp [List.getD, List.getElem?_eq_getElem hj]
            have h2 := (e2.2 r3[j]).1 (List.getElem_mem hj)
            have h3 := e3 (r3[j].1, r3[j].2.1)
            rw [hx] at h1 ⊢
            omega
          have HG3 := Lib.hid hg3
          clear e1 e2 e3 hg4' hv2 E2
          go_wp2_with fail
          refine (spec_give _ r3 _ _ _ _ _ hown3 (by omega) (by omega) hb3').mono ?_
          rintro e w4 ⟨v4, r4, rfl, hown4, hb4, hg4⟩
          have L4 := bel_trans L3 hb4
          have hl4 := hg4.len
          have hGd := (give_two HC.out HNE.out HG3.out hg4).1
          have hown4 := hown4.less L3.size
          clear hown3 hb4 hg4
          have HGD := Lib.hid hGd
          go_wp2_with fail
          refine (spec_cfg _ r4 _ hown4.at_).mono ?_
          rintro e w5 ⟨rfl, hb5⟩
          have hown5 := hown4.below hb5
          have L5 := bel_trans L4 hb5
          cases hr4 : cfgB r4
          · have HR := Lib.hid (show MoveR c n l k m [] false from .inr ⟨rfl, rfl, fun _ _ _ h => by rw [(cfg_okF HGD.out).2 h] at hr4; cases hr4⟩)
            have E5 := (OwnSh.empty w5 w5.heap.size (Nat.le_refl _)).less L5.size
            go_wp2_with fail
            exact bodyPost_ret (v := .tuple #[.slice (some ⟨w5.heap.size, 0, none⟩) 0 0, .bool false]) (by simp [results, Try.results28, go_sem]) rfl ⟨_, [], false, rfl, E5, bel_alloc L5 _, HR.out, by simp⟩
          · have HR := Lib.hid (show MoveR c n l k m r4 true from .inl ⟨rfl, HC.out, HNE.out, HS.out, HGD.out, hr4⟩)
            go_wp2_with fail
            exact bodyPost_ret (v := .tuple #[v4, .bool true]) (by simp [results, Try.results28, go_sem]) rfl ⟨_, r4, true, rfl, hown5, L5, HR.out, by omega⟩

end Go.Proofs.Ytgemocbpfbdnmaa
