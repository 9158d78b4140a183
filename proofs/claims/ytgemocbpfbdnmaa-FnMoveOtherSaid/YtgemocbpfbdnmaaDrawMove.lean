/-
  The draw of a move.
-/
import Derived.Test.YtgemocbpfbdnmaaDrawConfs
namespace Go.Proofs.Ytgemocbpfbdnmaa
open Go.ChangeShapes Go.WideShapes Go.ChangeAt Go.RowKit Go.Deep Go.Joins
set_option linter.unusedVariables false
set_option maxRecDepth 100000

def toCodes : Array Value := #[.int .i64 30, .int .i64 31, .int .i64 32, .int .i64 40, .int .i64 41, .int .i64 43, .int .i64 50, .int .i64 60, .int .i64 62, .int .i64 13, .int .i64 80]
theorem toCodes_get {i : Nat} (h : i < 11) : ∃ x : Int, toCodes[i]? = some (.int .i64 x) ∧ 10 ≤ x ∧ x ≤ 80 := by
  match i, h with
  | 0, _ => exact ⟨30, rfl, by decide, by decide⟩
  | 1, _ => exact ⟨31, rfl, by decide, by decide⟩
  | 2, _ => exact ⟨32, rfl, by decide, by decide⟩
  | 3, _ => exact ⟨40, rfl, by decide, by decide⟩
  | 4, _ => exact ⟨41, rfl, by decide, by decide⟩
  | 5, _ => exact ⟨43, rfl, by decide, by decide⟩
  | 6, _ => exact ⟨50, rfl, by decide, by decide⟩
  | 7, _ => exact ⟨60, rfl, by decide, by decide⟩
  | 8, _ => exact ⟨62, rfl, by decide, by decide⟩
  | 9, _ => exact ⟨13, rfl, by decide, by decide⟩
  | 10, _ => exact ⟨80, rfl, by decide, by decide⟩

/-- what a draw of a move leaves -/
def MoveDraw (w : World) (e : Ending) (w' : World) : Prop := ∃ v c n l k m, e = .returned (.tuple #[v, .int .i64 n, .int .i64 l, .int .i64 k, .int .i64 m]) ∧ c.length ≤ 12 ∧ OwnSh w' w.heap.size v c ∧ Below w.heap.size w w' ∧
  (cfgB c = true → 1 ≤ n ∧ n ≤ 7 ∧ 0 ≤ l ∧ l ≤ 3) ∧ 1 ≤ k ∧ k ≤ 8 ∧ 0 ≤ m ∧ m ≤ 9

set_option maxHeartbeats 4000000 in
theorem draw_move (A : Option Addr) (n c : Nat) (w : World) (h2 : n ≤ c) (hm : c ≤ maxLen) (h5 : Bytes w w.heap.size A n) :
    Calls Try.prog 26 #[.slice A n c] w (MoveDraw w) := by
  go_enter Try.func26, Try.ntmps26
  go_wp2_with fail
  refine (open_any _ _ _ _ h2 hm h5).mono ?_
  rintro e w1 ⟨g, rfl, hr1, hb1⟩
  clear h5
  go_wp2_with fail
  refine (l92_config _ g 0 (by omega) _ hr1).mono ?_
  rintro e w2 ⟨v, l, rfl, hl, ho, hr2, hg2⟩
  have hgl := hr1.lt
  have hz1 := hb1.size
  have hB1 := hr1.1
  have L2 := below_pick hb1 hr1 hg2
  clear hr1
  by_cases h0 : 0 < l.length
  · rcases ho.free with ⟨_, h00⟩ | ⟨b, cap, cur, hgb, hBg, rfl, hcp, hcm, hcur, hsz⟩
    · omega
    have hlen := hcur.lt
    unfold maxLen at hcm
    have hlp : (0 : Int) < l.length := by omega
    go_wp2_with fail
    refine (pick_any _ g 40 _ (by omega) _ hr2).mono ?_
    rintro e w3 ⟨x, rfl, hx0, hx1, _, hr3, hg3⟩
    have hx := hx1 (by omega)
    have ho3 := ho.pick hg3 hgl
    have L3 := below_pick L2 hr2 hg3
    obtain ⟨j, rfl⟩ := Int.eq_ofNat_of_zero_le hx0
    have hj : j < l.length := by omega
    have hgs := getD_of hj
    have hsb := fun hc => okSh_bd (cfg_sh (l := l) hc hj)
    generalize l.getD j sh0 = s at *
    obtain ⟨r0, r1, r2⟩ := cells_own ho3 rfl hgs
    have HSB := Lib.hid hsb
    have hlen3 := (World.ownsRow.lt ho3 b rfl).2
    clear hsb hgs hx1 hx ho hcur
    go_wp2_with fail
    have hr4 := hr3.below (bel_alloc (Below.refl w3.heap.size w3) (.cells toCodes 3))
    have O3 := Own.new w3 3 toCodes
    have L4 := bel_alloc L3 (.cells toCodes 3)
    have hr3l := hr3.lt
    have ho4 := ho3.alloc (.cells toCodes 3)
    refine (pick_any _ g _ 11 (by omega) _ hr4).mono ?_
    rintro e w5 ⟨x, rfl, hx0, hx1, _, hr5, hg5⟩
    have hx := hx1 (by omega)
    have L5 := L4.grown hg5 L4.size (fun k e => by injection e with e; omega)
    have O5 := O3.pick hg5 (by omega)
    have ho5 := ho4.pick hg5 hgl
    obtain ⟨i, rfl⟩ := Int.eq_ofNat_of_zero_le hx0
    obtain ⟨y, hy, hy0, hy1⟩ := toCodes_get (show i < 11 by omega)
    have q := O5.cell i
    rw [hy] at q
    have d1 : y.tdiv 10 = y / 10 := Int.tdiv_eq_ediv_of_nonneg (by omega)
    have d2 : y.tmod 10 = y % 10 := Int.tmod_eq_emod_of_nonneg (by omega)
    have hi11 : i < 11 := by omega
    have e1 : IntKind.i64.wrap (y / 10) = y / 10 := IntWalk.i64_in _ (by omega)
    have e2 : IntKind.i64.wrap (y % 10) = y % 10 := IntWalk.i64_in _ (by omega)
    go_wp2_with fail
    exact bodyPost_ret (v := .tuple #[.slice (some ⟨b, 0, none⟩) l.length cap, .int .i64 s.1, .int .i64 s.2.1, .int .i64 (y / 10), .int .i64 (y % 10)]) (by simp [results, Try.results26, go_sem]) rfl ⟨_, l, _, _, _, _, rfl, hl, ho5.less hz1, L5, fun hc => by have := HSB.out hc; omega, by omega, by omega, by omega, by omega⟩
  · have hl0 : l = [] := List.eq_nil_of_length_eq_zero (by omega)
    subst hl0
    have ha := ho.at_
    obtain ⟨A', cap, rfl, _⟩ := ha
    have ho3 := ho.alloc (.cells toCodes 3)
    go_wp2_with fail
    have hr3 := hr2.below (bel_alloc (Below.refl w2.heap.size w2) (.cells toCodes 3))
    have O3 := Own.new w2 3 toCodes
    have L3 := bel_alloc L2 (.cells toCodes 3)
    refine (pick_any _ g 40 11 (by omega) _ hr3).mono ?_
    rintro e w4 ⟨x, rfl, hx0, hx1, _, hr4, hg4⟩
    have hx := hx1 (by omega)
    have L4 := L3.grown hg4 L3.size (fun k e => by injection e with e; have := hr2.1; omega)
    have O4 := O3.pick hg4 (by have := hr2.lt; omega)
    have ho4 := ho3.pick hg4 hgl
    obtain ⟨i, rfl⟩ := Int.eq_ofNat_of_zero_le hx0
    obtain ⟨y, hy, hy0, hy1⟩ := toCodes_get (show i < 11 by omega)
    have q := O4.cell i
    rw [hy] at q
    have d1 : y.tdiv 10 = y / 10 := Int.tdiv_eq_ediv_of_nonneg (by omega)
    have d2 : y.tmod 10 = y % 10 := Int.tmod_eq_emod_of_nonneg (by omega)
    have hi11 : i < 11 := by omega
    have e1 : IntKind.i64.wrap (y / 10) = y / 10 := IntWalk.i64_in _ (by omega)
    have e2 : IntKind.i64.wrap (y % 10) = y % 10 := IntWalk.i64_in _ (by omega)
    go_wp2_with fail
    exact bodyPost_ret (v := .tuple #[.slice A' 0 cap, .int .i64 2, .int .i64 1, .int .i64 (y / 10), .int .i64 (y % 10)]) (by simp [results, Try.results26, go_sem]) rfl ⟨_, [], 2, 1, _, _, rfl, by simp, ho4.less hz1, L4, fun _ => by omega, by omega, by omega, by omega, by omega⟩

end Go.Proofs.Ytgemocbpfbdnmaa
