/-
  The reference's ground configuration.
-/
import Derived.Test.YtgemocbpfbdnmaaSpecPut
namespace Go.Proofs.Ytgemocbpfbdnmaa
open Go.ChangeShapes Go.WideShapes Go.ChangeAt Go.RowKit Go.Deep Go.Joins
set_option linter.unusedVariables false
set_option maxRecDepth 100000

theorem putUp_len (l : List Sh) (s : Sh) (k : Nat) : (putUp l s k).1.length = k + if (putUp l s k).2 = true then 1 else 0 := by
  induction k with
  | zero => simp [putUp]
  | succ k ih =>
    unfold putUp
    split
    · rename_i h
      simp [ih, h.1]
    · simp [ih]; omega
theorem putS_len (l : List Sh) (s : Sh) : (putS l s).length = l.length + 1 := by
  have h := putUp_len l s l.length
  unfold putS
  split
  · rename_i e; rw [h, if_pos e]
  · rename_i e; rw [List.length_append, h, if_neg e]; rfl

/-- the smaller number, as the program has it -/
def mn (a b : Int) : Int := if b < a then b else a
theorem order_bd : ∀ k, k < 19 → 2 ≤ (order.getD k sh0).2.2 ∧ (order.getD k sh0).2.2 ≤ 14 ∧ 1 ≤ (order.getD k sh0).1 ∧ (order.getD k sh0).1 ≤ 7 ∧ 0 ≤ (order.getD k sh0).2.1 ∧ (order.getD k sh0).2.1 ≤ 3 := by decide +kernel
theorem atSh_get {k : Nat} (h : k < 19) : atSh (k : Int) = order.getD k sh0 ∧ inB (k : Int) 0 18 = true := by
  have hb : inB (k : Int) 0 18 = true := inB_true.2 (by omega)
  refine ⟨?_, hb⟩
  unfold atSh
  rw [if_pos hb]
  rfl

/-- the shells after some rounds, and the electrons that are left -/
def gsUp (z : Int) : Nat → List Sh × Int
  | 0 => ([], z)
  | k + 1 => if 0 < (gsUp z k).2 then (putS (gsUp z k).1 ((order.getD k sh0).1, (order.getD k sh0).2.1, mn (order.getD k sh0).2.2 (gsUp z k).2), (gsUp z k).2 - mn (order.getD k sh0).2.2 (gsUp z k).2) else gsUp z k
theorem gsUp_succ (z : Int) (k : Nat) : gsUp z (k + 1) = if 0 < (gsUp z k).2 then (putS (gsUp z k).1 ((order.getD k sh0).1, (order.getD k sh0).2.1, mn (order.getD k sh0).2.2 (gsUp z k).2), (gsUp z k).2 - mn (order.getD k sh0).2.2 (gsUp z k).2) else gsUp z k := rfl
theorem gsUp_stay {z : Int} {k : Nat} (h : ¬ 0 < (gsUp z k).2) : ∀ j, gsUp z (k + j) = gsUp z k := by
  intro j
  induction j with
  | zero => rfl
  | succ j ih =>
    rw [← Nat.add_assoc, gsUp_succ, ih, if_neg h]
theorem gsUp_bd {z : Int} (h0 : 1 ≤ z) (h1 : z ≤ 118) (k : Nat) (hk : k ≤ 19) : 0 ≤ (gsUp z k).2 ∧ (gsUp z k).2 ≤ 118 ∧ (gsUp z k).1.length ≤ k := by
  induction k with
  | zero => simp [gsUp]; omega
  | succ k ih =>
    obtain ⟨a, b, c⟩ := ih (by omega)
    have hb := order_bd k (by omega)
    rw [gsUp_succ]
    generalize order.getD k sh0 = s at *
    split
    · rename_i h
      have hm : 0 ≤ (gsUp z k).2 - mn s.2.2 (gsUp z k).2 ∧ (gsUp z k).2 - mn s.2.2 (gsUp z k).2 ≤ 118 := by
        unfold mn
        split <;> omega
      refine ⟨hm.1, hm.2, ?_⟩
      rw [putS_len]
      omega
    · exact ⟨a, b, by omega⟩
/-- the ground configuration of so many electrons -/
def GL (z : Int) : List Sh := if inB z 1 118 = true then (gsUp z 19).1 else []

/-- what a call that makes a list of shells, and says whether it could, leaves -/
def PairEnd (l : List Sh) (b : Bool) (w : World) (e : Ending) (w' : World) : Prop := ∃ v, e = .returned (.tuple #[v, .bool b]) ∧ OwnSh w' w.heap.size v l ∧ Below w.heap.size w w'

theorem OwnSh.far {w : World} {B g : Nat} {v : Value} {l : List Sh} (h : OwnSh w B v l) (hg : v.ownBlock ≠ some g) (o : Nat) (u : Value) : OwnSh (w.setCell ⟨g, o, none⟩ u) B v l :=
  h.kept (row := some g) ⟨rfl, rfl, rfl, by simp [World.setCell], fun i hi hne => Below.heap_setCell w ⟨g, o, none⟩ u i (fun e => hne (by rw [e]))⟩ (.inr hg)

set_option maxHeartbeats 4000000 in
theorem spec_ground (z : Int) (w : World) : Calls Try.prog 15 #[.int .i64 z] w (PairEnd (GL z) (inB z 1 118) w) := by
  have E0 := OwnSh.empty w w.heap.size (Nat.le_refl _)
  have L0 : Below w.heap.size w (w.alloc (.cells #[] 29)) := (by repeat (first | exact Below.refl _ _ | assumption | refine bel_drewN ?_ _ | refine bel_drew ?_ | refine bel_alloc ?_ _ | refine bel_set ?_ (by simp; omega) _ | refine bel_set ?_ (by simp) _ | refine bel_trans ?_ (by assumption)))
  cases hz : inB z 1 118
  · have HG := Lib.hid (show GL z = [] by simp [GL, hz])
    go_enter Try.func15, Try.ntmps15
    go_wp2_with (go_at_call 35; refine (in_any _ _ _ _).mono ?_; rintro e w' ⟨rfl, rfl⟩)
    exact bodyPost_ret (v := .tuple #[.slice (some ⟨w.heap.size, 0, none⟩) 0 0, .bool false]) (by simp [results, Try.results15, go_sem]) rfl ⟨_, rfl, by rw [HG.out]; exact E0, L0⟩
  · have hzb := inB_true.1 hz
    have HG := Lib.hid (show GL z = (gsUp z 19).1 by simp [GL, hz])
    go_enter Try.func15, Try.ntmps15
    go_wp2_with (go_at_call 35; refine (in_any _ _ _ _).mono ?_; rintro e w' ⟨rfl, rfl⟩)
    go_loopg [4, 5, 6] 19 (fun gk o l i wr => ∃ k : Nat, gk = 19 - k ∧ k ≤ 19 ∧ i = .int .i64 k ∧ l = .int .i64 (gsUp z k).2 ∧ OwnSh wr w.heap.size o (gsUp z k).1 ∧ Below w.heap.size w wr)
    case atStart => exact ⟨0, rfl, by omega, rfl, rfl, E0, L0⟩
    case round =>
      clear E0 L0
      obtain ⟨k, rfl, hk, rfl, rfl, hown, hbel⟩ := hrel
      obtain ⟨hl0, hl1, hlen⟩ := gsUp_bd hzb.1 hzb.2 k hk
      by_cases hlt : k < 19
      · have hlt' : (k : Int) < 19 := by omega
        by_cases hpos : 0 < (gsUp z k).2
        · have hss : gsUp z (k + 1) = (putS (gsUp z k).1 ((order.getD k sh0).1, (order.getD k sh0).2.1, mn (order.getD k sh0).2.2 (gsUp z k).2), (gsUp z k).2 - mn (order.getD k sh0).2.2 (gsUp z k).2) := by
            rw [gsUp_succ, if_pos hpos]
          obtain ⟨ha, hib⟩ := atSh_get hlt
          have hbd := order_bd k hlt
          rw [← ha] at hss hbd
          have hat := fun w => spec_at (k : Int) w
          unfold AtEnd at hat
          rw [hib] at hat
          generalize atSh (k : Int) = s at *
          clear ha hib
          generalize (gsUp z k).1 = o at *
          generalize (gsUp z k).2 = left at *
          obtain ⟨b1, b2, b3, b4, b5, b6⟩ := hbd
          have hpos' : decide (0 < left) = true := decide_eq_true hpos
          have hlt2 : decide ((k : Int) < 19) = true := decide_eq_true hlt'
          have HA := Lib.hid hat
          clear hat
          have hbz := hbel.size
          by_cases hm : left < s.2.2
          · rw [show mn s.2.2 left = left from if_pos hm] at hss
            have HT := Lib.hid hss
            clear hss
            have e1 : IntKind.i64.wrap (left - left) = left - left := IntWalk.i64_in _ (by omega)
            go_wp2_with (first
              | (go_at_call 36; refine (HA.out _).mono ?_; rintro e w1 ⟨rfl, hb1⟩)
              | (go_at_call 37; fail))
            have ho1 := (hown.below hb1).alloc (.cells #[.int .i64 s.1, .int .i64 s.2.1, .int .i64 left] 29)
            have hb2 := bel_alloc (bel_trans hbel hb1) (.cells #[.int .i64 s.1, .int .i64 s.2.1, .int .i64 left] 29)
            refine (spec_put _ o (s.1, s.2.1, left) _ ho1.at_ (by omega)).mono ?_
            rintro e w3 ⟨v3, rfl, hown3, hb3⟩
            have hb4 := bel_trans hb2 hb3
            have hown4 := hown3.less (B' := w.heap.size) (by have := hb2.size; omega)
            clear ho1 hown hown3 hb3 hb2 hb1
            go_wp2_with fail
            go_roundg (19 - (k + 1))
            case measure => omega
            case rel => exact ⟨k + 1, rfl, by omega, by go_num, by first | (rw [HT.out]; done) | (rw [HT.out]; simp), by rw [HT.out]; exact hown4, hb4⟩
          · rw [show mn s.2.2 left = s.2.2 from if_neg hm] at hss
            have HT := Lib.hid hss
            clear hss
            have e1 : IntKind.i64.wrap (left - s.2.2) = left - s.2.2 := IntWalk.i64_in _ (by omega)
            go_wp2_with (first
              | (go_at_call 36; refine (HA.out _).mono ?_; rintro e w1 ⟨rfl, hb1⟩)
              | (go_at_call 37; fail))
            have ho1 := (hown.below hb1).alloc (.cells #[.int .i64 s.1, .int .i64 s.2.1, .int .i64 s.2.2] 29)
            have hb2 := bel_alloc (bel_trans hbel hb1) (.cells #[.int .i64 s.1, .int .i64 s.2.1, .int .i64 s.2.2] 29)
            refine (spec_put _ o (s.1, s.2.1, s.2.2) _ ho1.at_ (by omega)).mono ?_
            rintro e w3 ⟨v3, rfl, hown3, hb3⟩
            have hb4 := bel_trans hb2 hb3
            have hown4 := hown3.less (B' := w.heap.size) (by have := hb2.size; omega)
            clear ho1 hown hown3 hb3 hb2 hb1
            go_wp2_with fail
            go_roundg (19 - (k + 1))
            case measure => omega
            case rel => exact ⟨k + 1, rfl, by omega, by go_num, by first | (rw [HT.out]; done) | (rw [HT.out]; simp), by rw [HT.out]; exact hown4, hb4⟩
        · have hst := gsUp_stay hpos (19 - k)
          rw [show k + (19 - k) = 19 by omega] at hst
          have HE := Lib.hid (HG.out.trans (by rw [hst]))
          have hpos' : decide (0 < (gsUp z k).2) = false := decide_eq_false hpos
          generalize (gsUp z k).1 = o at *
          generalize (gsUp z k).2 = left at *
          have hlt2 : decide ((k : Int) < 19) = true := decide_eq_true hlt'
          clear hst
          go_wp2_with fail
          exact bodyPost_ret (v := .tuple #[u4, .bool true]) (by simp [results, Try.results15, go_sem]) rfl ⟨_, rfl, by rw [HE.out]; exact hown, hbel⟩
      · have HK := Lib.hid (show k = 19 by omega)
        have HE := Lib.hid (HG.out.trans (by rw [← HK.out]))
        go_wp2_with fail
        exact bodyPost_ret (v := .tuple #[u4, .bool true]) (by simp [results, Try.results15, go_sem]) rfl ⟨_, rfl, by rw [HE.out]; exact hown, hbel⟩

end Go.Proofs.Ytgemocbpfbdnmaa
