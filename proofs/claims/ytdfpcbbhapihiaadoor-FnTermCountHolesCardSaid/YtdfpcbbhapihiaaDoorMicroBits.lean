/-
  The plain law of microstates as bits of a number: counts of bits, the lowest bit. No program in sight.
-/
import Derived.Test.YtdfpcbbhapihiaaDoorMicroMath
namespace Go.Proofs.YtdfpcbbhapihiaaDoor.micro
open Go

/-- number of electrons, orbital sum, spin sum of a state: two bits for each of k projections from m on -/
def G : Nat → Int → Nat → Tri
  | 0, _, _ => (0, 0, 0)
  | k + 1, m, s =>
    let u := G k (m + 1) (s / 4)
    match s % 4 with
    | 0 => u
    | 1 => (u.1 + 1, u.2.1 + m, u.2.2 - 1)
    | 2 => (u.1 + 1, u.2.1 + m, u.2.2 + 1)
    | _ => (u.1 + 2, u.2.1 + 2 * m, u.2.2)

theorem G_zero (k : Nat) : ∀ m, G k m 0 = (0, 0, 0) := by
  induction k with
  | zero => intro m; rfl
  | succ k ih => intro m; exact ih (m + 1)
theorem range_four {α : Type} (f : Nat → α) : ∀ N, (List.range (N * 4)).map f = (List.range N).flatMap fun q => [f (q * 4), f (q * 4 + 1), f (q * 4 + 2), f (q * 4 + 3)] := by
  intro N
  induction N with
  | zero => rfl
  | succ N ih =>
    rw [show (N + 1) * 4 = N * 4 + 1 + 1 + 1 + 1 by omega]
    simp only [List.range_succ, List.map_append, List.flatMap_append, ih, List.map_cons, List.map_nil, List.flatMap_cons, List.flatMap_nil, List.append_assoc, List.append_nil, List.cons_append, List.nil_append]

theorem G_digit (k : Nat) (m : Int) (q r : Nat) (hr : r < 4) : G (k + 1) m (q * 4 + r) = (four m (G k (m + 1) q)).getD r (0, 0, 0) := by
  have e1 : (q * 4 + r) / 4 = q := by omega
  have e2 : (q * 4 + r) % 4 = r := by omega
  simp only [G, e1, e2, four]
  match r, hr with
  | 0, _ => rfl
  | 1, _ => rfl
  | 2, _ => rfl
  | 3, _ => rfl
theorem states_map (k : Nat) : ∀ m, states k m = (List.range (4 ^ k)).map (G k m) := by
  induction k with
  | zero => intro m; rfl
  | succ k ih =>
    intro m
    rw [states, ih, Nat.pow_succ, range_four, List.flatMap_map]
    congr 1
    funext q
    have h0 : G (k + 1) m (q * 4) = (four m (G k (m + 1) q)).getD 0 (0, 0, 0) := G_digit k m q 0 (by omega)
    rw [h0, G_digit k m q 1 (by omega), G_digit k m q 2 (by omega), G_digit k m q 3 (by omega)]
    rfl

/-- the steps of the library's count of bits -/
def oA (x : Nat) : Int := bits .and .u64 ((x : Int) / 2) 6148914691236517205
def oB (x : Nat) : Int := bits .and .u64 (x : Int) 6148914691236517205
def oD (x : Nat) : Int := bits .and .u64 ((oA x + oB x) / 4) 3689348814741910323
def oE (x : Nat) : Int := bits .and .u64 (oA x + oB x) 3689348814741910323
def oG (x : Nat) : Int := bits .and .u64 ((oD x + oE x) / 16 + (oD x + oE x)) 1085102592571150095
def oH (x : Nat) : Int := oG x + oG x / 256 + (oG x + oG x / 256) / 65536 + (oG x + oG x / 256 + (oG x + oG x / 256) / 65536) / 4294967296
def oK (x : Nat) : Int := bits .and .i64 (oH x) 127
def inR (z : Int) : Bool := decide (0 ≤ z) && decide (z ≤ 2000)
/-- the number of bits below the tenth -/
def pop (x : Nat) : Nat := ((List.range 10).filter x.testBit).length
theorem onesAll : ((List.range 1024).all fun x => inR (oA x) && inR (oB x) && inR (oD x) && inR (oE x) && inR (oG x) && oK x == (pop x : Int)) = true := by decide +kernel

/-- the library's place of a bit in its table -/
def dbi (x : Nat) : Int := IntKind.u64.wrap (bits .and .u64 (x : Int) (IntKind.u64.wrap (-(x : Int))) * 285870213051353865) / 288230376151711744
def dbTab : List Int := [0, 1, 56, 2, 57, 49, 28, 3, 61, 58, 42, 50, 38, 29, 17, 4, 62, 47, 59, 36, 45, 43, 51, 22, 53, 39, 33, 30, 24, 18, 12, 5, 63, 55, 48, 27, 60, 41, 37, 16, 46, 35, 44, 21, 52, 32, 23, 11, 54, 26, 40, 15, 34, 20, 31, 10, 25, 14, 19, 9, 13, 8, 7, 6]
/-- the lowest bit of a number -/
def low (x : Nat) : Nat := ((List.range 10).find? x.testBit).getD 64
theorem ctzAll : ((List.range 1024).all fun x => x == 0 || (decide (0 ≤ dbi x) && decide (dbi x < 64) && dbTab.getD (dbi x).toNat 0 == (low x : Int))) = true := by decide +kernel
/-- the number without its lowest bit -/
def rest (x : Nat) : Nat := x &&& (x - 1)
theorem restAll : ((List.range 1024).all fun x => x == 0 || (decide (rest x < x) && bits .and .u64 (x : Int) ((x : Int) - 1) == (rest x : Int) && decide (low x < 10))) = true := by decide +kernel
/-- what one bit adds -/
def okStep (l : Nat) : Bool := (List.range (4 ^ (2 * l + 1))).all fun x => (x == 0 || ((G (2 * l + 1) (-(l : Int)) x).2.1 == (G (2 * l + 1) (-(l : Int)) (rest x)).2.1 + ((low x : Int) / 2 - l) &&
  (G (2 * l + 1) (-(l : Int)) x).2.2 == (G (2 * l + 1) (-(l : Int)) (rest x)).2.2 + ((low x : Int) % 2 * 2 - 1))) && (G (2 * l + 1) (-(l : Int)) x).1 == (pop x : Int) && inB20 (G (2 * l + 1) (-(l : Int)) x).2.1 && inB20 (G (2 * l + 1) (-(l : Int)) x).2.2
where inB20 (z : Int) : Bool := decide (-6 ≤ z) && decide (z ≤ 6)
theorem step0 : okStep 0 = true := by decide +kernel
theorem step1 : okStep 1 = true := by decide +kernel
theorem step2 : okStep 2 = true := by decide +kernel

end Go.Proofs.YtdfpcbbhapihiaaDoor.micro
