/-
  The reference's change of the electrons of a shell.
-/
import Derived.Test.YtgemocbpfbdnmaaSpecGround
import Derived.Test.YtgemocbpfbdnmaaGdPlain
namespace Go.Proofs.Ytgemocbpfbdnmaa
open Go.ChangeShapes Go.WideShapes Go.ChangeAt Go.RowKit Go.Deep Go.Joins
set_option linter.unusedVariables false
set_option maxRecDepth 100000

/-- the index of a shell, or -1 -/
def AtR (l : List Sh) (n o r : Int) : Prop := (r = -1 ∧ ∀ k, k < l.length → ¬ ((l.getD k sh0).1 = n ∧ (l.getD k sh0).2.1 = o)) ∨ ∃ k : Nat, k < l.length ∧ r = (k : Int) ∧ (l.getD k sh0).1 = n ∧ (l.getD k sh0).2.1 = o

set_option maxHeartbeats 2000000 in
theorem spec_ix (v : Value) (l : List Sh) (n o : Int) (w : World) (hv : ShAt w w.heap.size v l) :
    Calls Try.prog 44 #[v, .int .i64 n, .int .i64 o] w fun e w' => (∃ r : Int, e = .returned (.int .i64 r) ∧ AtR l n o r) ∧ Below w.heap.size w w' := by
  obtain ⟨A, c, rfl, hlc, hcm, hc⟩ := hv
  unfold maxLen at hcm
  go_enter Try.func44, Try.ntmps44
  go_wp2_with fail
  go_loopg [7] l.length (fun gk i wr => ∃ k : Nat, gk = l.length - k ∧ k ≤ l.length ∧ i = .int .i64 k ∧ (∀ j, j < k → ¬ ((l.getD j sh0).1 = n ∧ (l.getD j sh0).2.1 = o)) ∧ Below w.heap.size w wr)
  case atStart => exact ⟨0, rfl, by omega, rfl, fun j h => absurd h (by omega), Below.refl _ _⟩
  case round =>
    obtain ⟨k, rfl, hk, rfl, hno, hbel⟩ := hrel
    have HNO := Lib.hid hno
    clear hno
    by_cases hlt : k < l.length
    · obtain ⟨b, off, s, rfl, hbl, hbw, hs, c0, c1, c2⟩ := sh_cells hc hbel hlt
      have hlt' : (k : Int) < (l.length : Int) := by omega
      have HS := Lib.hid hs
      have hnext : ¬ (s.1 = n ∧ s.2.1 = o) → ∀ j, j < k + 1 → ¬ ((l.getD j sh0).1 = n ∧ (l.getD j sh0).2.1 = o) := fun h j hj => by
        by_cases e : j = k
        · rw [e, ← hs]; exact h
        · exact HNO.out j (by omega)
      have HNX := Lib.hid hnext
      clear hs hnext
      cases h1 : s.1 == n
      · have HF := Lib.hid (HNX.out (fun e => by simp [e.1] at h1))
        go_wp2_with fail
        go_roundg (l.length - (k + 1))
        case measure => omega
        case rel => exact ⟨k + 1, rfl, by omega, by go_num, HF.out, (by repeat (first | exact Below.refl _ _ | assumption | refine bel_drewN ?_ _ | refine bel_drew ?_ | refine bel_alloc ?_ _ | refine bel_set ?_ (by simp; omega) _ | refine bel_set ?_ (by simp) _ | refine bel_trans ?_ (by assumption)))⟩
      · cases h2 : s.2.1 == o
        · have HF := Lib.hid (HNX.out (fun e => by simp [e.2] at h2))
          go_wp2_with fail
          go_roundg (l.length - (k + 1))
          case measure => omega
          case rel => exact ⟨k + 1, rfl, by omega, by go_num, HF.out, (by repeat (first | exact Below.refl _ _ | assumption | refine bel_drewN ?_ _ | refine bel_drew ?_ | refine bel_alloc ?_ _ | refine bel_set ?_ (by simp; omega) _ | refine bel_set ?_ (by simp) _ | refine bel_trans ?_ (by assumption)))⟩
        · have HF := Lib.hid (show AtR l n o k from .inr ⟨k, hlt, rfl, by rw [← HS.out]; simpa using h1, by rw [← HS.out]; simpa using h2⟩)
          go_wp2_with fail
          go_ret
          exact ⟨⟨_, rfl, HF.out⟩, (by repeat (first | exact Below.refl _ _ | assumption | refine bel_drewN ?_ _ | refine bel_drew ?_ | refine bel_alloc ?_ _ | refine bel_set ?_ (by simp; omega) _ | refine bel_set ?_ (by simp) _ | refine bel_trans ?_ (by assumption)))⟩
    · have HF := Lib.hid (show AtR l n o (-1) from .inl ⟨rfl, fun j hj => HNO.out j (by omega)⟩)
      go_wp2_with fail
      go_ret
      exact ⟨⟨_, rfl, HF.out⟩, hbel⟩

/-- the list with a shell's electrons changed -/
def GiveR (l : List Sh) (n o d : Int) (r : List Sh) : Prop :=
  ((∀ k, k < l.length → ¬ ((l.getD k sh0).1 = n ∧ (l.getD k sh0).2.1 = o)) ∧ r = putS l (n, o, d)) ∨
  ∃ k : Nat, k < l.length ∧ (l.getD k sh0).1 = n ∧ (l.getD k sh0).2.1 = o ∧
    ((0 < (l.getD k sh0).2.2 + d ∧ r = l.set k (n, o, (l.getD k sh0).2.2 + d)) ∨ (¬ 0 < (l.getD k sh0).2.2 + d ∧ r = l.take k ++ l.drop (k + 1)))
theorem GiveR.len {l r : List Sh} {n o d : Int} (h : GiveR l n o d r) : r.length ≤ l.length + 1 := by
  rcases h with ⟨_, rfl⟩ | ⟨k, hk, _, _, ⟨_, rfl⟩ | ⟨_, rfl⟩⟩
  · rw [putS_len]; omega
  · rw [List.length_set]; omega
  · rw [List.length_append, List.length_take, List.length_drop]; omega

/-- what a call that changes a shell's electrons leaves -/
def GiveEnd (l : List Sh) (n o d : Int) (w : World) (e : Ending) (w' : World) : Prop := ∃ v r, e = .returned v ∧ OwnSh w' w.heap.size v r ∧ Below w.heap.size w w' ∧ GiveR l n o d r

theorem OwnSh.some {w : World} {B : Nat} {v : Value} {l : List Sh} (h : OwnSh w B v l) (hne : 0 < l.length) :
    ∃ g cap, v.ownBlock = Option.some g ∧ B ≤ g ∧ g < w.heap.size ∧ v = .slice (Option.some ⟨g, 0, none⟩) l.length cap ∧ l.length ≤ cap ∧ cap ≤ 9223372036854775807 := by
  rcases h.free with ⟨_, h0⟩ | ⟨g, cap, cur, hgb, hBg, rfl, hcp, hcm, hcur, hsz⟩
  · omega
  · exact ⟨g, cap, hgb, hBg, hcur.lt, rfl, hcp, by unfold maxLen at hcm; omega⟩

set_option maxHeartbeats 4000000 in
theorem spec_give (v : Value) (l : List Sh) (n o d : Int) (w : World) (B : Nat) (hv : OwnSh w B v l) (hn : l.length ≤ 1048590) (hd : -1 ≤ d ∧ d ≤ 1) (hc : ∀ k, k < l.length → 0 ≤ (l.getD k sh0).2.2 ∧ (l.getD k sh0).2.2 ≤ 1000) :
    Calls Try.prog 45 #[v, .int .i64 n, .int .i64 o, .int .i64 d] w (GiveEnd l n o d w) := by
  obtain ⟨hd0, hd1⟩ := hd
  go_enter Try.func45, Try.ntmps45
  go_wp2_with fail
  refine (spec_ix _ l _ _ _ hv.at_).mono ?_
  rintro e w1 ⟨⟨r, rfl, hr⟩, hb1⟩
  have hv1 := hv.below hb1
  clear hv
  rcases hr with ⟨rfl, hno⟩ | ⟨k, hk, rfl, hs1, hs2⟩
  · have HNO := Lib.hid hno
    clear hno
    go_wp2_with fail
    refine (spec_put _ l (n, o, d) _ hv1.at_ (by omega)).mono ?_
    rintro e w2 ⟨v2, rfl, hown2, hb2⟩
    go_wp2_with fail
    go_ret
    exact ⟨_, _, rfl, hown2.less hb1.size, bel_trans hb1 hb2, .inl ⟨HNO.out, rfl⟩⟩
  · have hks := hc k hk
    have hgs := getD_of hk
    have HG1 := Lib.hid (show ∀ r, (0 < (l.getD k sh0).2.2 + d ∧ r = l.set k (n, o, (l.getD k sh0).2.2 + d)) ∨ (¬ 0 < (l.getD k sh0).2.2 + d ∧ r = l.take k ++ l.drop (k + 1)) → GiveR l n o d r from fun r h => .inr ⟨k, hk, hs1, hs2, h⟩)
    generalize l.getD k sh0 = s at *
    obtain ⟨s1, s2, s3⟩ := s
    dsimp only at hs1 hs2 hks HG1
    subst hs1 hs2
    have hk0 : ¬ (k : Int) < 0 := by omega
    have hk1 : (k : Int) < l.length := by omega
    have hbw := hb1.size
    rcases hv1.free with ⟨_, h0⟩ | ⟨g, cap, cur, hgb, hBg, rfl, hcp, hcm, hcur, hsz⟩
    · omega
    · have hg1 := hcur.lt
      unfold maxLen at hcm
      have HGS := Lib.hid hgs
      clear hgs
      have ew : IntKind.i64.wrap (s3 + d) = s3 + d := IntWalk.i64_in _ (by omega)
      have hgs2 : (l.set k (s1, s2, s3 + d))[k]? = Option.some (s1, s2, s3 + d) := by simp [hk]
      have HGS2 := Lib.hid hgs2
      have hle : (l.set k (s1, s2, s3 + d)).length = l.length := List.length_set
      have HLE := Lib.hid hle
      clear hgs2 hle
      by_cases hpos : 0 < s3 + d
      · have hpos' : decide (0 < s3 + d) = true := decide_eq_true hpos
        go_wp2_with (at_builtin; refine app_list w1.heap.size rfl 23 24 rfl _ [] rfl (OwnSh.empty w1 w1.heap.size (Nat.le_refl _)) (by simp) _ l l.length _ rfl rfl ((hv1.news 0 l (List.prefix_refl _)).below (bel_alloc (Below.refl _ _) _) hg1) (by simp; omega) ?_; intro vx w5 hox hg5 _
                     rw [List.nil_append] at hox
                     have hb5 : Below w1.heap.size w1 w5 := (bel_alloc (Below.refl _ _) _).grown hg5 (by simp) (fun k e => by injection e with e; simp at e; omega)
                     have hz5 := hb5.size
                     have hf5 := hox.some (by omega)
                     obtain ⟨g', cp', hgb', hB', hlt', rfl, hcp', hcm'⟩ := hf5
                     obtain ⟨r0, r1, r2⟩ := cells_own hox rfl HGS.out
                     have rf := frozen_own hox rfl
                     have hcu := count_own hox rfl HGS.out (s3 + d)
                     have t2 := (cells_own hcu HLE.out.symm HGS2.out).2.2)
        have hcu := count_own hox rfl HGS.out (s3 + d)
        have L5 := bel_trans hb1 hb5
        go_ret
        exact ⟨_, l.set k (s1, s2, s3 + d), rfl, OwnSh.less (by exact hcu) hbw, bel_set L5 (Nat.le_trans hbw hB') _, HG1.out _ (.inl ⟨hpos, rfl⟩)⟩
      · have hpos' : decide (0 < s3 + d) = false := decide_eq_false hpos
        go_wp2_with (at_builtin; refine app_list w1.heap.size rfl 23 24 rfl _ [] rfl (OwnSh.empty w1 w1.heap.size (Nat.le_refl _)) (by simp) _ l l.length _ rfl rfl ((hv1.news 0 l (List.prefix_refl _)).below (bel_alloc (Below.refl _ _) _) hg1) (by simp; omega) ?_; intro vx w5 hox hg5 _
                     rw [List.nil_append] at hox
                     have hb5 : Below w1.heap.size w1 w5 := (bel_alloc (Below.refl _ _) _).grown hg5 (by simp) (fun k e => by injection e with e; simp at e; omega)
                     have hz5 := hb5.size
                     have hf5 := hox.some (by omega)
                     obtain ⟨g', cp', hgb', hB', hlt', rfl, hcp', hcm'⟩ := hf5
                     obtain ⟨r0, r1, r2⟩ := cells_own hox rfl HGS.out
                     have rf := frozen_own hox rfl
                     have hcu := count_own hox rfl HGS.out (s3 + d)
                     have t2 := (cells_own hcu HLE.out.symm HGS2.out).2.2)
        have L5 := bel_set (bel_trans hb1 hb5) (p := ⟨g', k * 3 + 2, none⟩) (Nat.le_trans hbw hB') (.int .i64 (s3 + d))
        have hgne : g ≠ g' := by omega
        have hv6 : OwnSh (w5.setCell ⟨g', k * 3 + 2, none⟩ (.int .i64 (s3 + d))) B (.slice (Option.some ⟨g, 0, none⟩) l.length cap) l := (hv1.below hb5).far (fun e => hgne (by injection e)) _ _
        have hg6 : g < (w5.setCell ⟨g', k * 3 + 2, none⟩ (.int .i64 (s3 + d))).heap.size := by simp; omega
        have hk2 : (k : Int) + 1 ≤ l.length := by omega
        have hkc : (k : Int) ≤ cap := by omega
        have hk3 : (k : Int) + 1 ≤ cap := by omega
        have hk00 : (0 : Int) ≤ (k : Int) := by omega
        have hk4 : (0 : Int) ≤ (k : Int) + 1 := by omega
        have ek : IntKind.i64.wrap ((k : Int) + 1) = k + 1 := IntWalk.i64_in _ (by omega)
        have hkn : ((k : Int) + 1).toNat = k + 1 := by omega
        have P1 := fun w => run_part w g l.length cap shUnd shSize ((k : Int) + 1) (by omega) (by omega)
        rw [hkn] at P1
        have HT := Lib.hid (show (l.take k).length = k by rw [List.length_take]; omega)
        have HD := Lib.hid (show (l.drop (k + 1)).length = l.length - (k + 1) from List.length_drop)
        have hz6 := L5.size
        clear hox hg5 r0 r1 r2 rf hcu t2 hcp' hcm' hv1 hcur hgb' hsz hg1
        generalize w5.setCell ⟨g', k * 3 + 2, none⟩ (.int .i64 (s3 + d)) = w6 at *
        have N6 := (hv6.newsFrom hcp (k + 1)).below (bel_alloc (bel_drew (Below.refl w6.heap.size w6)) (.cells #[] 29)) (by rw [partAd_block]; exact hg6)
        go_region_law (first
          | (refine step_app w6.heap.size (by rfl) 44 47 (by rfl) _ [] (by rfl) (OwnSh.empty w6.drew w6.heap.size (by simp)) (by simp) _ (l.take (k)) _ _ HT.out (by rfl) ((hv6.news 0 (l.take (k)) (List.take_prefix _ _)).below (bel_alloc (bel_drew (Below.refl _ _)) _) hg6) (by simp; omega) ?_; intro v7 w7 ho7 hg7 _)
          | (refine step_app w6.heap.size (by rfl) 48 52 (by rfl) _ ([] ++ l.take (k)) (by rfl) ho7 (by have := hg7.size; simp at this; omega) _ (l.drop (k + 1)) _ _ HD.out (by rfl) (N6.grown hg7 (by rw [partAd_block]; simp [Value.ownBlock]; omega)) (by simp; omega) ?_; intro vx w8 ho8 hg8 _))
        have L8 := bel_cut hg7 ho7 hg8
        go_wp2_with fail
        go_ret
        exact ⟨_, l.take k ++ l.drop (k + 1), rfl, (by rw [List.nil_append] at ho8; exact ho8.less hz6), bel_trans L5 L8, HG1.out _ (.inr ⟨hpos, rfl⟩)⟩

end Go.Proofs.Ytgemocbpfbdnmaa
