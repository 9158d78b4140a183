/-
  Rationals in lowest terms: plain laws.
-/
import Derived.Test.YtefddmfnjneegaaDoorScalar
namespace Go.Proofs.YtefddmfnjneegaaDoor
set_option linter.unusedVariables false

/-- a rational is valid -/
def ratB (n d : Int) : Bool := inB d 1 1000000000 && inB n (-1000000000) 1000000000 && (Int.gcd n d == 1)
theorem ratB_true {n d : Int} : ratB n d = true ↔ 1 ≤ d ∧ d ≤ 1000000000 ∧ -1000000000 ≤ n ∧ n ≤ 1000000000 ∧ Int.gcd n d = 1 := by
  simp only [ratB, Bool.and_eq_true, inB_true, beq_iff_eq]
  constructor
  · rintro ⟨⟨⟨a, b⟩, c, d⟩, e⟩; exact ⟨a, b, c, d, e⟩
  · rintro ⟨a, b, c, d, e⟩; exact ⟨⟨⟨a, b⟩, c, d⟩, e⟩
/-- a root is valid -/
def rtB (s n d : Int) : Bool := inB s (-1) 1 && ratB n d && decide (0 ≤ n) && ((n == 0) == (s == 0))
theorem rtB_true {s n d : Int} : rtB s n d = true ↔ (-1 ≤ s ∧ s ≤ 1) ∧ ratB n d = true ∧ 0 ≤ n ∧ (n = 0 ↔ s = 0) := by
  simp only [rtB, Bool.and_eq_true, inB_true, decide_eq_true_eq]
  constructor
  · rintro ⟨⟨⟨a, b⟩, c⟩, e⟩
    refine ⟨a, b, c, ?_⟩
    by_cases h1 : n = 0 <;> by_cases h2 : s = 0 <;> simp_all
  · rintro ⟨a, b, c, e⟩
    refine ⟨⟨⟨a, b⟩, c⟩, ?_⟩
    have h : (n == 0) = (s == 0) := by
      rw [Bool.eq_iff_iff]
      simpa using e
    rw [h]
    simp

/-- lowest terms of natural numbers -/
def rn (N D : Nat) : Nat := N / Nat.gcd N D
def rd (N D : Nat) : Nat := D / Nat.gcd N D
theorem rn_mul {N D : Nat} (hD : 0 < D) : rn N D * Nat.gcd N D = N := Nat.div_mul_cancel (Nat.gcd_dvd_left N D)
theorem rd_mul {N D : Nat} (hD : 0 < D) : rd N D * Nat.gcd N D = D := Nat.div_mul_cancel (Nat.gcd_dvd_right N D)
theorem rd_pos {N D : Nat} (hD : 0 < D) : 0 < rd N D := Nat.div_pos (Nat.gcd_le_right N hD) (Nat.gcd_pos_of_pos_right N hD)
theorem r_cop {N D : Nat} (hD : 0 < D) : Nat.gcd (rn N D) (rd N D) = 1 := Nat.coprime_div_gcd_div_gcd (Nat.gcd_pos_of_pos_right N hD)
theorem r_cross {N D : Nat} (hD : 0 < D) : rn N D * D = N * rd N D := by
  have a := rn_mul (N := N) hD
  have b := rd_mul (N := N) hD
  calc rn N D * D = rn N D * (rd N D * Nat.gcd N D) := by rw [b]
    _ = rn N D * Nat.gcd N D * rd N D := by ac_rfl
    _ = N * rd N D := by rw [a]
theorem cop_uniq {a b c d : Nat} (h1 : Nat.gcd a b = 1) (h2 : Nat.gcd c d = 1) (hb : 0 < b) (hd : 0 < d) (h : a * d = c * b) : a = c ∧ b = d := by
  have p1 : a ∣ c := Nat.Coprime.dvd_of_dvd_mul_right (show Nat.Coprime a b from h1) ⟨d, h.symm⟩
  have p2 : c ∣ a := Nat.Coprime.dvd_of_dvd_mul_right (show Nat.Coprime c d from h2) ⟨b, h⟩
  have hac := Nat.dvd_antisymm p1 p2
  subst hac
  refine ⟨rfl, ?_⟩
  by_cases h0 : a = 0
  · subst h0
    simp at h1 h2
    omega
  · exact (Nat.eq_of_mul_eq_mul_left (by omega) h).symm

/-- the product of two rationals that are not negative, reduced: numerator, denominator, and whether it fits -/
def mulOk (a b c d : Nat) : Bool := decide (rn (a * c) (b * d) ≤ 1000000000) && decide (rd (a * c) (b * d) ≤ 1000000000)
theorem mul_three {n1 d1 n2 d2 : Nat} (h1 : 0 < d1) (h2 : 0 < d2) :
    rn (rn (n1 * n2) (d1 * d2) * 1) (rd (n1 * n2) (d1 * d2) * 2) = rn (n1 * rn (n2 * 1) (d2 * 2)) (d1 * rd (n2 * 1) (d2 * 2)) ∧
    rd (rn (n1 * n2) (d1 * d2) * 1) (rd (n1 * n2) (d1 * d2) * 2) = rd (n1 * rn (n2 * 1) (d2 * 2)) (d1 * rd (n2 * 1) (d2 * 2)) := by
  have hD : 0 < d1 * d2 := Nat.mul_pos h1 h2
  have hY : 0 < d2 * 2 := by omega
  have dO := rd_pos (N := n1 * n2) hD
  have dY := rd_pos (N := n2 * 1) hY
  have hX : 0 < rd (n1 * n2) (d1 * d2) * 2 := by omega
  have hZ : 0 < d1 * rd (n2 * 1) (d2 * 2) := Nat.mul_pos h1 dY
  have cO := r_cross (N := n1 * n2) hD
  have cY := r_cross (N := n2 * 1) hY
  have cX := r_cross (N := rn (n1 * n2) (d1 * d2) * 1) hX
  have cZ := r_cross (N := n1 * rn (n2 * 1) (d2 * 2)) hZ
  refine cop_uniq (r_cop hX) (r_cop hZ) (rd_pos hX) (rd_pos hZ) ?_
  have kX := rd_pos (N := rn (n1 * n2) (d1 * d2) * 1) hX
  have kZ := rd_pos (N := n1 * rn (n2 * 1) (d2 * 2)) hZ
  generalize rn (rn (n1 * n2) (d1 * d2) * 1) (rd (n1 * n2) (d1 * d2) * 2) = nX at *
  generalize rd (rn (n1 * n2) (d1 * d2) * 1) (rd (n1 * n2) (d1 * d2) * 2) = dX at *
  generalize rn (n1 * rn (n2 * 1) (d2 * 2)) (d1 * rd (n2 * 1) (d2 * 2)) = nZ at *
  generalize rd (n1 * rn (n2 * 1) (d2 * 2)) (d1 * rd (n2 * 1) (d2 * 2)) = dZ at *
  generalize rn (n1 * n2) (d1 * d2) = nO at *
  generalize rd (n1 * n2) (d1 * d2) = eO at *
  generalize rn (n2 * 1) (d2 * 2) = nY at *
  generalize rd (n2 * 1) (d2 * 2) = eY at *
  have A : nX * (d1 * d2 * 2) = n1 * n2 * dX := by
    refine Nat.eq_of_mul_eq_mul_right dO ?_
    calc nX * (d1 * d2 * 2) * eO = nX * (eO * 2) * (d1 * d2) := by ac_rfl
      _ = nO * 1 * dX * (d1 * d2) := by rw [cX]
      _ = nO * (d1 * d2) * (1 * dX) := by ac_rfl
      _ = n1 * n2 * eO * (1 * dX) := by rw [cO]
      _ = n1 * n2 * dX * eO := by rw [Nat.one_mul]; ac_rfl
  have Bz : nZ * (d1 * d2 * 2) = n1 * n2 * dZ := by
    refine Nat.eq_of_mul_eq_mul_right dY ?_
    calc nZ * (d1 * d2 * 2) * eY = nZ * (d1 * eY) * (d2 * 2) := by ac_rfl
      _ = n1 * nY * dZ * (d2 * 2) := by rw [cZ]
      _ = n1 * (nY * (d2 * 2)) * dZ := by ac_rfl
      _ = n1 * (n2 * 1 * eY) * dZ := by rw [cY]
      _ = n1 * n2 * dZ * eY := by rw [Nat.mul_one]; ac_rfl
  refine Nat.eq_of_mul_eq_mul_right (show 0 < d1 * d2 * 2 by omega) ?_
  calc nX * dZ * (d1 * d2 * 2) = nX * (d1 * d2 * 2) * dZ := by ac_rfl
    _ = n1 * n2 * dX * dZ := by rw [A]
    _ = n1 * n2 * dZ * dX := by ac_rfl
    _ = nZ * (d1 * d2 * 2) * dX := by rw [Bz]
    _ = nZ * dX * (d1 * d2 * 2) := by ac_rfl

end Go.Proofs.YtefddmfnjneegaaDoor
