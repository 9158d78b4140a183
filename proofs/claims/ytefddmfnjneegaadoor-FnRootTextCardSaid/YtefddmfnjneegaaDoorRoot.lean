/-
  Contracts on roots: products and negatives.
-/
import Derived.Test.YtefddmfnjneegaaDoorRatMul
namespace Go.Proofs.YtefddmfnjneegaaDoor
open Go.ChangeShapes Go.WideShapes Go.ChangeAt Go.RowKit Go.Deep Go.Joins
set_option linter.unusedVariables false
set_option maxRecDepth 100000

abbrev Rt := Int × Int × Int
abbrev rtV (a : Rt) : Value := .agg #[.int .i64 a.1, .int .i64 a.2.1, .int .i64 a.2.2]
def okR (a : Rt) : Bool := rtB a.1 a.2.1 a.2.2
/-- whether two roots have a product -/
def mulB (a b : Rt) : Bool := okR a && okR b && redOk (a.2.1.toNat * b.2.1.toNat) (a.2.2.toNat * b.2.2.toNat)
/-- the product of two roots -/
def mulV (a b : Rt) : Rt := if mulB a b = true then (a.1 * b.1, (rn (a.2.1.toNat * b.2.1.toNat) (a.2.2.toNat * b.2.2.toNat) : Int), (rd (a.2.1.toNat * b.2.1.toNat) (a.2.2.toNat * b.2.2.toNat) : Int)) else (0, 0, 0)
/-- the negative of a root -/
def negV (a : Rt) : Rt := if okR a = true then (-a.1, a.2.1, a.2.2) else (0, 0, 0)
theorem okR_true {a : Rt} : okR a = true ↔ (-1 ≤ a.1 ∧ a.1 ≤ 1) ∧ ratB a.2.1 a.2.2 = true ∧ 0 ≤ a.2.1 ∧ (a.2.1 = 0 ↔ a.1 = 0) := rtB_true
theorem rn_zero {N D : Nat} (hD : 0 < D) : rn N D = 0 ↔ N = 0 := by
  have h := rn_mul (N := N) hD
  constructor
  · intro e; rw [e] at h; omega
  · intro e; subst e; simp [rn]
/-- a product that is told is valid -/
theorem mul_ok {a b : Rt} (h : mulB a b = true) : okR (mulV a b) = true := by
  have h0 := h
  simp only [mulB, Bool.and_eq_true] at h
  obtain ⟨⟨ha, hb⟩, hr⟩ := h
  have ha' := okR_true.1 ha
  have hb' := okR_true.1 hb
  have ra := ratB_true.1 ha'.2.1
  have rb := ratB_true.1 hb'.2.1
  have hD : 0 < a.2.2.toNat * b.2.2.toNat := Nat.mul_pos (by omega) (by omega)
  unfold mulV
  rw [if_pos h0]
  refine okR_true.2 ⟨?_, by rw [redOk_rat hD]; exact hr, by dsimp only; omega, ?_⟩
  · dsimp only
    rcases (by omega : a.1 = -1 ∨ a.1 = 0 ∨ a.1 = 1) with e | e | e <;> rw [e] <;> omega
  · dsimp only
    have hz := rn_zero (N := a.2.1.toNat * b.2.1.toNat) hD
    rw [show ((rn (a.2.1.toNat * b.2.1.toNat) (a.2.2.toNat * b.2.2.toNat) : Nat) : Int) = 0 ↔ a.2.1.toNat * b.2.1.toNat = 0 by rw [← hz]; omega]
    rw [Nat.mul_eq_zero, Int.mul_eq_zero, ← ha'.2.2.2, ← hb'.2.2.2]
    omega
theorem neg_ok {a : Rt} (h : okR a = true) : okR (negV a) = true := by
  have h' := okR_true.1 h
  unfold negV
  rw [if_pos h]
  refine okR_true.2 ⟨by dsimp only; omega, h'.2.1, h'.2.2.1, ?_⟩
  dsimp only
  rw [h'.2.2.2]
  omega
/-- the negative of a product -/
theorem mul_neg {a b : Rt} (h : mulB a b = true) : mulB a (negV b) = true ∧ mulV a (negV b) = negV (mulV a b) ∧ okR b = true ∧ okR (mulV a b) = true := by
  have h0 := h
  simp only [mulB, Bool.and_eq_true] at h
  obtain ⟨⟨ha, hb⟩, hr⟩ := h
  have hn : (negV b).2 = b.2 := by unfold negV; rw [if_pos hb]
  have hn1 : (negV b).1 = -b.1 := by unfold negV; rw [if_pos hb]
  have hm : mulB a (negV b) = true := by
    simp only [mulB, Bool.and_eq_true]
    refine ⟨⟨ha, neg_ok hb⟩, ?_⟩
    rw [hn]; exact hr
  have hk := mul_ok h0
  refine ⟨hm, ?_, hb, hk⟩
  have e1 : mulV a (negV b) = (a.1 * (negV b).1, (rn (a.2.1.toNat * b.2.1.toNat) (a.2.2.toNat * b.2.2.toNat) : Int), (rd (a.2.1.toNat * b.2.1.toNat) (a.2.2.toNat * b.2.2.toNat) : Int)) := by
    unfold mulV; rw [if_pos hm, hn]
  have e2 : negV (mulV a b) = (-(mulV a b).1, (mulV a b).2.1, (mulV a b).2.2) := by
    conv => lhs; unfold negV
    rw [if_pos hk]
  have e3 : mulV a b = (a.1 * b.1, (rn (a.2.1.toNat * b.2.1.toNat) (a.2.2.toNat * b.2.2.toNat) : Int), (rd (a.2.1.toNat * b.2.1.toNat) (a.2.2.toNat * b.2.2.toNat) : Int)) := by
    conv => lhs; unfold mulV
    rw [if_pos h0]
  rw [e1, e2, e3, hn1]
  dsimp only
  rw [Int.mul_neg]
def half : Rt := (-1, 1, 2)
/-- products associate -/
theorem mul_assoc3 {a b : Rt} (h : mulB a b = true) (hp : mulB (mulV a b) half = true) (hq : mulB b half = true) (hs : mulB a (mulV b half) = true) : mulV (mulV a b) half = mulV a (mulV b half) := by
  have hk := h
  simp only [mulB, Bool.and_eq_true] at hk
  obtain ⟨⟨ha, hb⟩, hr⟩ := hk
  have ra := ratB_true.1 (okR_true.1 ha).2.1
  have rb := ratB_true.1 (okR_true.1 hb).2.1
  have e1 : ∀ {x y : Rt}, mulB x y = true → mulV x y = (x.1 * y.1, (rn (x.2.1.toNat * y.2.1.toNat) (x.2.2.toNat * y.2.2.toNat) : Int), (rd (x.2.1.toNat * y.2.1.toNat) (x.2.2.toNat * y.2.2.toNat) : Int)) := fun h => by
    conv => lhs; unfold mulV
    rw [if_pos h]
  rw [e1 hp, e1 hs, e1 h, e1 hq]
  dsimp only [half]
  have h3 := mul_three (n1 := a.2.1.toNat) (d1 := a.2.2.toNat) (n2 := b.2.1.toNat) (d2 := b.2.2.toNat) (by omega) (by omega)
  simp only [Int.toNat_natCast]
  have t1 : (1 : Int).toNat = 1 := rfl
  have t2 : (2 : Int).toNat = 2 := rfl
  rw [t1, t2, h3.1, h3.2, Int.mul_assoc]


end Go.Proofs.YtefddmfnjneegaaDoor
