/-
  A root that comes in: a struct with a struct in it; and the reference's copies of roots.
-/
import Derived.Test.YtefddmfnjneegaaDoorLaw
import Derived.Test.YtefddmfnjneegaaDoorTie
import Derived.Test.YtefddmfnjneegaaDoorCards
import Derived.LaidMore
import Derived.Stop.LaidErr
import Derived.Stop.Joined
import Derived.Lib.LaidTab
import Derived.Lib.ItoaNum
import Derived.SevenTiedAt
namespace Go.Proofs.YtefddmfnjneegaaDoor
open Go.ChangeShapes Go.WideShapes Go.ChangeAt Go.RowKit Go.Deep Go.Joins
set_option linter.unusedVariables false
set_option maxRecDepth 100000

section
variable {H : Type} {enc : TypeId × Value → H} {P : Program} {w : World} {base : Nat} {spare : Nat → Bool} {held : Bool}
theorem open_nest {r : Reach} {b0 : Nat} {t : TypeId} {f0 f1 g0 g1 : Field} {v : Value} {d : DataW H} {p : List MemPlace} (hs : P.underlying t = some (.struct #[f0, f1])) (hs1 : P.underlying f1.type = some (.struct #[g0, g1]))
    (hC : P.cellsOf t = 3) (hf0 : f0.offset = 0 ∧ P.cellsOf f0.type = 1) (hf1 : f1.offset = 1 ∧ P.cellsOf f1.type = 2) (hg0 : g0.offset = 0 ∧ P.cellsOf g0.type = 1) (hg1 : g1.offset = 1 ∧ P.cellsOf g1.type = 1)
    (hi0 : P.underlying f0.type = some (.int .i64)) (hj0 : P.underlying g0.type = some (.int .i64)) (hj1 : P.underlying g1.type = some (.int .i64))
    (hv : Value.okWide P w r b0 t v) (h : DataW.Trod enc P w base spare held t v d p) :
    ∃ a b c : Int, v = .agg #[.int .i64 a, .int .i64 b, .int .i64 c] ∧ d = .agg [.lit (.int .i64 a), .agg [.lit (.int .i64 b), .lit (.int .i64 c)]] ∧ p = [] ∧
      (Lit.int .i64 a).wf = true ∧ (Lit.int .i64 b).wf = true ∧ (Lit.int .i64 c).wf = true := by
  obtain ⟨cs, rfl, hsz⟩ := okWide_struct hs hv
  obtain ⟨c0, c1, c2, rfl⟩ := array3 (hsz.trans hC)
  obtain ⟨fuel, hf⟩ := h
  obtain ⟨y0, y1, n, hx, _, h0, h1⟩ := trod_struct2 hs hf
  simp only [hf0.1, hf0.2, Value.cells, List.drop_zero, List.take_succ_cons, List.take_zero] at h0
  simp only [hf1.1, hf1.2, Value.cells, List.drop_succ_cons, List.drop_zero, List.take_succ_cons, List.take_zero] at h1
  obtain ⟨z0, z1, m, hz, _, k0, k1⟩ := trod_struct2 hs1 h1
  simp only [hg0.1, hg0.2, List.drop_zero, List.take_succ_cons, List.take_zero] at k0
  simp only [hg1.1, hg1.2, List.drop_succ_cons, List.drop_zero, List.take_succ_cons, List.take_zero] at k1
  obtain ⟨a, ea, rfl, wa⟩ := DataW.trod_int hi0 h0
  obtain ⟨b, eb, rfl, wb⟩ := DataW.trod_int hj0 k0
  obtain ⟨c, ec, rfl, wc⟩ := DataW.trod_int hj1 k1
  subst hz
  simp only [List.cons.injEq, and_true] at ea eb ec
  subst ea eb ec
  simp only [Prod.mk.injEq] at hx
  exact ⟨a, b, c, rfl, hx.1, by simpa using hx.2, wa, wb, wc⟩
end
theorem open_root {H : Type} {enc : TypeId × Value → H} {w : World} {base : Nat} {spare : Nat → Bool} {held : Bool} {r : Reach} {b0 : Nat} {v : Value} {d : DataW H} {p : List MemPlace}
    (hv : Value.okWide Tryd.prog w r b0 25 v) (h : DataW.Trod enc Tryd.prog w base spare held 25 v d p) :
    ∃ a b c : Int, v = .agg #[.int .i64 a, .int .i64 b, .int .i64 c] ∧ d = .agg [.lit (.int .i64 a), .agg [.lit (.int .i64 b), .lit (.int .i64 c)]] ∧ p = [] ∧
      (Lit.int .i64 a).wf = true ∧ (Lit.int .i64 b).wf = true ∧ (Lit.int .i64 c).wf = true :=
  open_nest Tryd.underlying25 Tryd.underlying23 (by kernel_rfl) ⟨rfl, by kernel_rfl⟩ ⟨rfl, by kernel_rfl⟩ ⟨rfl, by kernel_rfl⟩ ⟨rfl, by kernel_rfl⟩ Tryd.underlying3 Tryd.underlying3 Tryd.underlying3 hv h

theorem to_rat (n d : Int) (w : World) : Calls Tryd.prog 12 #[.agg #[.int .i64 n, .int .i64 d]] w fun e w' => e = .returned (.agg #[.int .i64 n, .int .i64 d]) ∧ Below w.heap.size w w' := by
  go_enter Tryd.func12, Tryd.ntmps12
  go_wp2
  exact bodyPost_ret (v := .agg #[.int .i64 n, .int .i64 d]) (by simp [results, Tryd.results12, go_sem]) rfl ⟨rfl, (by repeat (first | exact Below.refl _ _ | assumption | refine bel_drewN ?_ _ | refine bel_drew ?_ | refine bel_alloc ?_ _ | refine bel_set ?_ (by simp; omega) _ | refine bel_set ?_ (by simp) _ | refine bel_trans ?_ (by assumption)))⟩
theorem bel5 {w w1 : World} (h : Below w.heap.size w w1) (a b c d e : Value) : Below w.heap.size w (((((w1.setCell ⟨w.heap.size + 1 + 1, 1, none⟩ a).setCell ⟨w.heap.size + 1 + 1, 2, none⟩ b).setCell ⟨w.heap.size + 1, 0, none⟩ c).setCell ⟨w.heap.size + 1, 1, none⟩ d).setCell ⟨w.heap.size + 1, 2, none⟩ e) :=
  bel_set (bel_set (bel_set (bel_set (bel_set h (p := ⟨w.heap.size + 1 + 1, 1, none⟩) (by simp only; omega) a) (p := ⟨w.heap.size + 1 + 1, 2, none⟩) (by simp only; omega) b) (p := ⟨w.heap.size + 1, 0, none⟩) (by simp) c) (p := ⟨w.heap.size + 1, 1, none⟩) (by simp) d) (p := ⟨w.heap.size + 1, 2, none⟩) (by simp) e
set_option maxHeartbeats 4000000 in
theorem to_root (s n d : Int) (w : World) : Calls Tryd.prog 6 #[.agg #[.int .i64 s, .int .i64 n, .int .i64 d]] w fun e w' => e = .returned (.agg #[.int .i64 s, .int .i64 n, .int .i64 d]) ∧ Below w.heap.size w w' := by
  have R2 := ((Own.new w 25 #[.int .i64 s, .int .i64 n, .int .i64 d]).alloc (.cells #[.int .i64 0, .int .i64 0, .int .i64 0] 29)).alloc (.cells #[.int .i64 s, .int .i64 0, .int .i64 0] 29)
  have Q2 := (Own.new (w.alloc (.cells #[.int .i64 s, .int .i64 n, .int .i64 d] 25)) 29 #[.int .i64 0, .int .i64 0, .int .i64 0]).alloc (.cells #[.int .i64 s, .int .i64 0, .int .i64 0] 29)
  have P2 := Own.new ((w.alloc (.cells #[.int .i64 s, .int .i64 n, .int .i64 d] 25)).alloc (.cells #[.int .i64 0, .int .i64 0, .int .i64 0] 29)) 29 #[.int .i64 s, .int .i64 0, .int .i64 0]
  simp only [World.size_alloc] at P2 Q2
  go_enter Tryd.func6, Tryd.ntmps6
  go_wp2_with fail
  refine (to_rat n d _).mono ?_
  rintro e w1 ⟨rfl, hb1⟩
  have P3 := P2.below hb1
  have Q3 := Q2.below hb1
  have R3 := R2.below hb1
  have L1 : Below w.heap.size w w1 := bel_trans ((by repeat (first | exact Below.refl _ _ | assumption | refine bel_drewN ?_ _ | refine bel_drew ?_ | refine bel_alloc ?_ _ | refine bel_set ?_ (by simp; omega) _ | refine bel_set ?_ (by simp) _ | refine bel_trans ?_ (by assumption)))) hb1
  have p := P3.cell
  have k := P3.lt
  have q := Q3.cell
  have k1 := Q3.lt
  have r := R3.cell
  have pf := P3.frozen
  have qf := Q3.frozen
  go_wp2_with fail
  have F := ((((Q3.far (p := ⟨w.heap.size + 1 + 1, 1, none⟩) (by simp) (.int .i64 n)).far (p := ⟨w.heap.size + 1 + 1, 2, none⟩) (by simp) (.int .i64 d)).set_ 0 (.int .i64 s)).set_ 1 (.int .i64 n)).set_ 2 (.int .i64 d)
  have qF := F.cell
  exact bodyPost_ret (v := .agg #[.int .i64 s, .int .i64 n, .int .i64 d]) (by simp [results, Tryd.results6, go_sem, qF]) rfl ⟨rfl, bel5 L1 _ _ _ _ _⟩

abbrev laidL : List (String × DataW Unit) := [("math/bits.deBruijn32tab", Rows.laid_math_bits_deBruijn32tab), ("math/bits.deBruijn64tab", Rows.laid_math_bits_deBruijn64tab), ("internal/strconv.uint64pow10", Rows.laid_internal_strconv_uint64pow10)]
theorem door_met (os : Os) (args : Array Value) : laidMetH Tryd.prog laidL ((World.doorLaid Tryd.prog 400 os).forCall (fun _ _ => 0) ⟨#[], args, []⟩).memory :=
  laidMetH_of_parts3 (fuel := 8) (laidMet_of_run' 8 (by kernel_rfl) (by kernel_rfl)) (by kernel_rfl) (by kernel_rfl)
theorem pow_data : (Rows.laid_internal_strconv_uint64pow10 : DataW Unit) = Lib.tabData .u64 Lib.pow10Tab := by kernel_rfl
theorem tab_of_laid {W : World} (h : laidMetH Tryd.prog laidL W) : Lib.TabIs Tryd.prog W "internal/strconv.uint64pow10" .u64 Lib.pow10Tab := by
  rw [MakeChecks.laidMetH_plain _ _ _ (by kernel_rfl)] at h
  have h2 := laidMet.tail (laidMet.tail h)
  rw [pow_data] at h2
  exact Lib.tabIs_of_head (g := 0) (by kernel_rfl) (by kernel_rfl) Tryd.underlying64 Tryd.underlying58 (by kernel_rfl) (by kernel_rfl) h2

end Go.Proofs.YtefddmfnjneegaaDoor
