/-
  Contracts of the functions that sum over a configuration: its electrons, its parity.
-/
import Derived.Test.YtgmdljlbiokcaaaDoorConfig
namespace Go.Proofs.YtgmdljlbiokcaaaDoor
open Go.ChangeShapes Go.WideShapes Go.ChangeAt Go.RowKit Go.Deep Go.Joins
set_option linter.unusedVariables false

theorem sh_cells {w wr : World} {A : Option Addr} {l : List Sh} {k : Nat}
    (hc : 0 < l.length → ∃ b off, A = some ⟨b, off, none⟩ ∧ b < w.heap.size ∧ ∀ i s, l[i]? = some s →
      w.cell? ⟨b, off + i * 3, none⟩ = some (.int .i64 s.1) ∧ w.cell? ⟨b, off + i * 3 + 1, none⟩ = some (.int .i64 s.2.1) ∧ w.cell? ⟨b, off + i * 3 + 2, none⟩ = some (.int .i64 s.2.2))
    (hbel : Below w.heap.size w wr) (hk : k < l.length) :
    ∃ b off s, A = some ⟨b, off, none⟩ ∧ b < w.heap.size ∧ b < wr.heap.size ∧ s = l.getD k sh0 ∧
      wr.cell? ⟨b, off + k * 3, none⟩ = some (.int .i64 s.1) ∧ wr.cell? ⟨b, off + k * 3 + 1, none⟩ = some (.int .i64 s.2.1) ∧ wr.cell? ⟨b, off + k * 3 + 2, none⟩ = some (.int .i64 s.2.2) := by
  obtain ⟨b, off, hA, hb, h⟩ := hc (by omega)
  obtain ⟨c0, c1, c2⟩ := h k _ (getD_of hk)
  have := hbel.size
  exact ⟨b, off, _, hA, hb, by omega, rfl, (hbel.cell (p := ⟨b, off + k * 3, none⟩) hb).trans c0, (hbel.cell (p := ⟨b, off + k * 3 + 1, none⟩) hb).trans c1, (hbel.cell (p := ⟨b, off + k * 3 + 2, none⟩) hb).trans c2⟩

theorem okUp_at {l : List Sh} : ∀ {k : Nat}, okUp l k = true → ∀ i, i < k → okAt l i = true := by
  intro k
  induction k with
  | zero => intro _ i hi; omega
  | succ k ih =>
    intro h i hi
    simp only [okUp, Bool.and_eq_true] at h
    by_cases e : i = k
    · rw [e]; exact h.2
    · exact ih h.1 i (by omega)
theorem cfg_sh {l : List Sh} (h : cfgB l = true) {k : Nat} (hk : k < l.length) : okSh (l.getD k sh0) = true := by
  simp only [cfgB, Bool.and_eq_true] at h
  have := okUp_at h.1 k hk
  simp only [okAt, Bool.and_eq_true] at this
  exact this.1
theorem cfg_pos {l : List Sh} (h : cfgB l = true) : 0 < l.length := by
  simp only [cfgB, Bool.and_eq_true, decide_eq_true_eq] at h
  exact h.2
theorem okSh_bd {s : Sh} (h : okSh s = true) : 1 ≤ s.1 ∧ s.1 ≤ 7 ∧ 0 ≤ s.2.1 ∧ s.2.1 ≤ 3 ∧ s.2.1 < s.1 ∧ 1 ≤ s.2.2 ∧ s.2.2 ≤ 4 * s.2.1 + 2 := shB_true.1 h

/-- the sum of a number over the first shells -/
def vsum (f : Sh → Int) (l : List Sh) : Nat → Int
  | 0 => 0
  | k + 1 => vsum f l k + f (l.getD k sh0)
theorem vsum_bd {f : Sh → Int} {l : List Sh} {M : Int} (hf : ∀ k, k < l.length → 0 ≤ f (l.getD k sh0) ∧ f (l.getD k sh0) ≤ M) : ∀ k, k ≤ l.length → 0 ≤ vsum f l k ∧ vsum f l k ≤ M * k := by
  intro k
  induction k with
  | zero => intro _; simp [vsum]
  | succ k ih =>
    intro hk
    have h1 := ih (by omega)
    have h2 := hf k (by omega)
    have : M * ((k + 1 : Nat) : Int) = M * k + M := by rw [Int.natCast_add, Int.mul_add]; simp
    simp only [vsum]
    omega
def cnt (s : Sh) : Int := s.2.2
def par (s : Sh) : Int := s.2.1 * s.2.2
theorem cnt_bd {l : List Sh} (h : cfgB l = true) (k : Nat) (hk : k < l.length) : 0 ≤ cnt (l.getD k sh0) ∧ cnt (l.getD k sh0) ≤ 14 := by
  have := okSh_bd (cfg_sh h hk)
  unfold cnt
  omega
theorem par_bd' {s : Sh} (h : okSh s = true) : 0 ≤ par s ∧ par s ≤ 42 := by
  have := okSh_bd h
  unfold par
  have a : 0 ≤ s.2.1 * s.2.2 := Int.mul_nonneg (by omega) (by omega)
  have b : s.2.1 * s.2.2 ≤ 3 * 14 := Int.mul_le_mul (by omega) (by omega) (by omega) (by omega)
  omega
theorem par_bd {l : List Sh} (h : cfgB l = true) (k : Nat) (hk : k < l.length) : 0 ≤ par (l.getD k sh0) ∧ par (l.getD k sh0) ≤ 42 := par_bd' (cfg_sh h hk)
/-- the electrons of a configuration -/
def elB (l : List Sh) : Int := if cfgB l = true then vsum cnt l l.length else -1
/-- the parity of a configuration -/
def paB (l : List Sh) : Int := if cfgB l = true then vsum par l l.length % 2 else -1

theorem and_one (x : Int) (h : 0 ≤ x) (hm : x ≤ 1000) : bits .and .i64 x 1 = x % 2 := by
  obtain ⟨n, rfl⟩ := Int.eq_ofNat_of_zero_le h
  have e : (BitVec.ofInt 64 (n : Int)).toNat = n := by
    rw [BitVec.ofInt_natCast, BitVec.toNat_ofNat]; exact Nat.mod_eq_of_lt (by omega)
  show IntKind.i64.wrap ((BitVec.ofInt 64 (n : Int) &&& BitVec.ofInt 64 1).toNat : Int) = _
  rw [BitVec.toNat_and, e, show (BitVec.ofInt 64 1).toNat = 1 from rfl, Nat.and_one_is_mod, IntKind.wrap_i64]
  omega
theorem xor_bit {x y : Int} (hx : x = 0 ∨ x = 1) (hy : y = 0 ∨ y = 1) : bits .xor .i64 x y = (x + y) % 2 := by
  rcases hx with rfl | rfl <;> rcases hy with rfl | rfl <;> decide +kernel






end Go.Proofs.YtgmdljlbiokcaaaDoor
