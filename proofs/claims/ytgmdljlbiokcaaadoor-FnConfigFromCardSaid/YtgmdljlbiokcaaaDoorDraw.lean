/-
  Contracts of the functions that draw numbers out of bytes: what they return is in range; they write to the reader's own block alone.
-/
import Derived.Test.YtgmdljlbiokcaaaDoorLaw
namespace Go.Proofs.YtgmdljlbiokcaaaDoor
open Go.ChangeShapes Go.WideShapes Go.ChangeAt Go.RowKit Go.Deep Go.Joins
set_option linter.unusedVariables false

/-- Block g is a reader over bytes that lie below block B; it has been asked at most K times. -/
def Rdr (w : World) (B g K : Nat) : Prop :=
  B ≤ g ∧ ∃ (A : Option Addr) (n c p : Nat), n ≤ 2000 ∧ n ≤ c ∧ p ≤ K ∧ w.heap[g]? = some (.cells #[.slice A n c, .int .i64 p] 64 (0, 0)) ∧ Bytes w B A n

theorem Rdr.more {w : World} {B g K K' : Nat} (h : Rdr w B g K) (hk : K ≤ K') : Rdr w B g K' := by
  obtain ⟨hB, A, n, c, p, h1, h2, h3, h4, h5⟩ := h
  exact ⟨hB, A, n, c, p, h1, h2, by omega, h4, h5⟩
theorem Rdr.lt {w : World} {B g K : Nat} (h : Rdr w B g K) : g < w.heap.size := by
  obtain ⟨hB, A, n, c, p, h1, h2, h3, h4, h5⟩ := h
  exact (Array.getElem?_eq_some_iff.1 h4).1
theorem Rdr.grown {w w' : World} {B g K : Nat} {row : Option Nat} (h : Rdr w B g K) (hg : w.grownBy w' row) (hne : ∀ k, row = some k → B ≤ k ∧ k ≠ g) : Rdr w' B g K := by
  have hlt := h.lt
  obtain ⟨hB, A, n, c, p, h1, h2, h3, h4, h5⟩ := h
  refine ⟨hB, A, n, c, p, h1, h2, h3, (hg.block g hlt (fun e => (hne g e.symm).2 rfl)).trans h4, fun hn => ?_⟩
  obtain ⟨b, off, ha, hlt', hc⟩ := h5 hn
  refine ⟨b, off, ha, hlt', fun i hi => ?_⟩
  obtain ⟨x, h0, h1, hx⟩ := hc i hi
  exact ⟨x, h0, h1, (World.cell?_of_block (a := ⟨b, off + i, none⟩) (hg.block b (by omega) (fun e => by have := (hne b e.symm).1; omega))).trans hx⟩
theorem Rdr.below {w w' : World} {B g K : Nat} (h : Rdr w B g K) (hb : Below w.heap.size w w') : Rdr w' B g K :=
  h.grown (row := none) ⟨hb.os, hb.tape, hb.output, hb.size, fun k hk _ => hb.block k hk⟩ (fun k e => by cases e)

theorem Rdr.set_ {w : World} {B g K : Nat} (h : Rdr w B g K) {p : Addr} (hne : p.block ≠ g) (hB : B ≤ p.block) (u : Value) : Rdr (w.setCell p u) B g K :=
  h.grown (row := some p.block) ⟨rfl, rfl, rfl, by simp [World.setCell], fun k hk hne => Below.heap_setCell w p u k (fun e => hne (by rw [e]))⟩ (fun k e => by injection e with e; subst e; exact ⟨hB, hne⟩)
theorem Rdr.drewN {w : World} {B g K : Nat} (h : Rdr w B g K) (n : Nat) : Rdr (w.drewN n) B g K := h
/-- what a draw of a number below m leaves -/
def PickEnd (w : World) (B g K : Nat) (m : Int) (e : Ending) (w' : World) : Prop :=
  ∃ x : Int, e = .returned (.int .i64 x) ∧ 0 ≤ x ∧ (1 ≤ m → x < m) ∧ (m < 1 → x = 0) ∧ Rdr w' B g (K + 1) ∧ w.grownBy w' (some g)

theorem xor_nonneg (a b : Int) (ha : 0 ≤ a) (hb : 0 ≤ b) (ha' : a < 9223372036854775808) (hb' : b < 9223372036854775808) : 0 ≤ bits .xor .i64 a b := by
  obtain ⟨x, rfl⟩ := Int.eq_ofNat_of_zero_le ha
  obtain ⟨y, rfl⟩ := Int.eq_ofNat_of_zero_le hb
  have e : ∀ z : Nat, z < 9223372036854775808 → (BitVec.ofInt 64 (z : Int)).toNat = z := fun z hz => by
    rw [BitVec.ofInt_natCast, BitVec.toNat_ofNat]; exact Nat.mod_eq_of_lt (by omega)
  have hx : x ^^^ y < 2 ^ 63 := Nat.xor_lt_two_pow (by omega) (by omega)
  show 0 ≤ IntKind.i64.wrap ((BitVec.ofInt 64 (x : Int) ^^^ BitVec.ofInt 64 (y : Int)).toNat : Int)
  rw [BitVec.toNat_xor, e x (by omega), e y (by omega), IntKind.wrap_i64]
  omega

theorem rdr_step {w : World} {B g K n c p : Nat} {A : Option Addr} (hB : B ≤ g) (h1 : n ≤ 2000) (h2 : n ≤ c) (h3 : p ≤ K) (h4 : w.heap[g]? = some (.cells #[.slice A n c, .int .i64 p] 64 (0, 0))) (h5 : Bytes w B A n) (k : Nat) :
    Rdr ((w.setCell ⟨g, 1, none⟩ (.int .i64 (p + 1))).drewN k) B g (K + 1) ∧ w.grownBy ((w.setCell ⟨g, 1, none⟩ (.int .i64 (p + 1))).drewN k) (some g) := by
  have hg : w.grownBy ((w.setCell ⟨g, 1, none⟩ (.int .i64 (p + 1))).drewN k) (some g) :=
    ⟨rfl, rfl, rfl, by simp [World.setCell], fun i hi hne => Below.heap_setCell w _ _ i (fun e => hne (by rw [e]))⟩
  refine ⟨⟨hB, A, n, c, p + 1, h1, h2, by omega, ?_, fun hn => ?_⟩, hg⟩
  · simp [World.setCell, Array.getElem?_modify, h4]
  · obtain ⟨b, off, ha, hlt', hc⟩ := h5 hn
    refine ⟨b, off, ha, hlt', fun i hi => ?_⟩
    obtain ⟨x, h0, h1, hx⟩ := hc i hi
    exact ⟨x, h0, h1, hg.cell hx (by simp; omega)⟩

theorem pick_end {w : World} {B g K n c p : Nat} {A : Option Addr} (hB : B ≤ g) (h1 : n ≤ 2000) (h2 : n ≤ c) (h3 : p ≤ K) (h4 : w.heap[g]? = some (.cells #[.slice A n c, .int .i64 p] 64 (0, 0))) (h5 : Bytes w B A n) (k : Nat)
    {m x : Int} (hx : 0 ≤ x) (hx1 : 1 ≤ m → x < m) (hx2 : m < 1 → x = 0) : PickEnd w B g K m (.returned (.int .i64 x)) ((w.setCell ⟨g, 1, none⟩ (.int .i64 (p + 1))).drewN k) :=
  ⟨x, rfl, hx, hx1, hx2, rdr_step hB h1 h2 h3 h4 h5 k⟩

theorem pick_any (B g K : Nat) (m : Int) (hK : K ≤ 1000000) (w : World) (hr : Rdr w B g K) :
    Calls Tryd.prog 37 #[.pointer (some ⟨g, 0, none⟩), .int .i64 m] w (PickEnd w B g K m) := by
  have hgl := hr.lt
  obtain ⟨hB, A, n, c, p, h1, h2, h3, h4, h5⟩ := hr
  have hc0 : w.cell? ⟨g, 0, none⟩ = some (.slice A n c) := by simp [World.cell?, h4]
  have hc1 : w.cell? ⟨g, 1, none⟩ = some (.int .i64 p) := by simp [World.cell?, h4]
  have hf1 : w.frozen? ⟨g, 1, none⟩ = false := by simp [World.frozen?, h4]
  have HE := fun k x => @pick_end w B g K n c p A hB h1 h2 h3 h4 h5 k m x
  have H4 := Lib.hid h4
  clear h4
  by_cases hm : m < 1
  · go_enter Tryd.func37, Tryd.ntmps37
    go_wp2
    go_ret
    exact HE 0 0 (by omega) (by omega) (by omega)
  · by_cases hn : n = 0
    · have hn0 : ((n : Int) == 0) = true := by simp [hn]
      clear hn
      go_enter Tryd.func37, Tryd.ntmps37
      go_wp2
      go_ret
      exact HE 0 0 (by omega) (by omega) (by omega)
    · have hn0 : ((n : Int) == 0) = false := by simp [hn]
      obtain ⟨b, off, hA, hbB, hby⟩ := h5 (by omega)
      subst hA
      have hcell : ∀ i x, w.cell? ⟨b, off + i, none⟩ = some (.int .u8 x) → (w.setCell ⟨g, 1, none⟩ (.int .i64 (p + 1))).cell? ⟨b, off + i, none⟩ = some (.int .u8 x) := fun i x hx =>
        (World.cell?_setCell_other w _ _ _ (fun e => by injection e with e1; omega)).trans hx
      by_cases hp : p < n
      · obtain ⟨x, hx0, hx1, hx⟩ := hby p hp
        have hx := hcell _ _ hx
        have hxm : x % m < m := Int.emod_lt_of_pos _ (by omega)
        have hxn : 0 ≤ x % m := Int.emod_nonneg _ (by omega)
        clear hby hcell
        go_enter Tryd.func37, Tryd.ntmps37
        go_wp2
        go_ret
        exact HE 0 _ hxn (fun _ => hxm) (fun h => by omega)
      · obtain ⟨x, hx0, hx1, hx⟩ := hby (p % n) (Nat.mod_lt _ (by omega))
        obtain ⟨y, hy0, hy1, hy⟩ := hby ((p * 7 + 3) % n) (Nat.mod_lt _ (by omega))
        have hx := hcell _ _ hx
        have hy := hcell _ _ hy
        clear hby hcell
        have hq1 : p % n < n := Nat.mod_lt _ (by omega)
        have hq2 : (p * 7 + 3) % n < n := Nat.mod_lt _ (by omega)
        have hq3 : p / n ≤ p := Nat.div_le_self _ _
        have f1 : ((p % n : Nat) : Int) < n := by omega
        have f2 : (((p * 7 + 3) % n : Nat) : Int) < n := by omega
        have e1 : (p : Int).tmod n = ((p % n : Nat) : Int) := rfl
        have e4 : IntKind.i64.wrap ((p : Int) * 7) = p * 7 := IntWalk.i64_in _ (by omega)
        have e5 : IntKind.i64.wrap ((p : Int) * 7 + 3) = p * 7 + 3 := IntWalk.i64_in _ (by omega)
        have e6 : ((p : Int) * 7 + 3).tmod n = (((p * 7 + 3) % n : Nat) : Int) := rfl
        have e12 : (p : Int).tdiv n = ((p / n : Nat) : Int) := rfl
        generalize (p * 7 + 3) % n = j at *
        generalize p % n = i at *
        generalize p / n = q at *
        have e2 : IntKind.i64.wrap x = x := IntWalk.i64_in _ (by omega)
        have e3 : IntKind.i64.wrap (x * 131) = x * 131 := IntWalk.i64_in _ (by omega)
        have e7 : IntKind.i64.wrap y = y := IntWalk.i64_in _ (by omega)
        have e8 : IntKind.i64.wrap (y * 1117) = y * 1117 := IntWalk.i64_in _ (by omega)
        have e9 : IntKind.i64.wrap (x * 131 + y * 1117) = x * 131 + y * 1117 := IntWalk.i64_in _ (by omega)
        have e10 : IntKind.i64.wrap ((p : Int) * 29) = p * 29 := IntWalk.i64_in _ (by omega)
        have e11 : IntKind.i64.wrap (x * 131 + y * 1117 + p * 29) = x * 131 + y * 1117 + p * 29 := IntWalk.i64_in _ (by omega)
        have e13 : IntKind.i64.wrap ((q : Int) * 53) = q * 53 := IntWalk.i64_in _ (by omega)
        have e14 : IntKind.i64.wrap (x * 131 + y * 1117 + p * 29 + q * 53) = x * 131 + y * 1117 + p * 29 + q * 53 := IntWalk.i64_in _ (by omega)
        have hz : 0 ≤ bits .xor .i64 (x * 131 + y * 1117 + p * 29 + q * 53) ((x * 131 + y * 1117 + p * 29 + q * 53) / 64) := xor_nonneg _ _ (by omega) (by omega) (by omega) (by omega)
        go_enter Tryd.func37, Tryd.ntmps37
        go_wp2
        go_quiet (fail)
        clear e1 e4 e5 e6 e12 e2 e3 e7 e8 e9 e10 e11 e13 e14
        go_wp2
        go_ret
        generalize bits .xor .i64 (x * 131 + y * 1117 + p * 29 + q * 53) ((x * 131 + y * 1117 + p * 29 + q * 53) / 64) = z at *
        exact HE nq _ (Int.emod_nonneg _ (by omega)) (fun _ => Int.emod_lt_of_pos _ (by omega)) (fun h => by omega)

/-- what opening a reader leaves -/
def OpenEnd (w : World) (e : Ending) (w' : World) : Prop := ∃ g : Nat, e = .returned (.pointer (some ⟨g, 0, none⟩)) ∧ Rdr w' w.heap.size g 0 ∧ Below w.heap.size w w'

theorem open_end {w : World} {A : Option Addr} {n c : Nat} (h1 : n ≤ 2000) (h2 : n ≤ c) (h5 : Bytes w w.heap.size A n) :
    OpenEnd w (.returned (.pointer (some ⟨w.heap.size, 0, none⟩))) (w.alloc (.cells #[.slice A n c, .int .i64 0] 64)) :=
  ⟨w.heap.size, rfl, ⟨Nat.le_refl _, A, n, c, 0, h1, h2, Nat.le_refl _, heap_alloc_new w _, h5.below (bel_alloc (Below.refl _ _) _)⟩, bel_alloc (Below.refl _ _) _⟩

theorem open_any (A : Option Addr) (n c : Nat) (w : World) (h2 : n ≤ c) (hm : c ≤ maxLen) (h5 : Bytes w w.heap.size A n) :
    Calls Tryd.prog 29 #[.slice A n c] w (OpenEnd w) := by
  unfold maxLen at hm
  by_cases hn : 2000 < n
  · obtain ⟨b, off, rfl, hlt, hc⟩ := h5 (by omega)
    have HE := open_end (Nat.le_refl 2000) (show 2000 ≤ c by omega) (h5.less (show 2000 ≤ n by omega))
    clear hc h5
    go_enter Tryd.func29, Tryd.ntmps29
    go_wp2
    go_ret
    exact HE
  · have HE := open_end (show n ≤ 2000 by omega) h2 h5
    go_enter Tryd.func29, Tryd.ntmps29
    go_wp2
    go_ret
    exact HE

theorem bel_only {w a b : World} {g : Nat} (h : Below w.heap.size w a) (hB : w.heap.size ≤ g) (hg : a.grownBy b (some g)) : Below w.heap.size w b :=
  h.grown hg h.size (fun k e => by injection e with e; subst e; exact hB)

/-- what a draw of a number leaves -/
def IntEnd (P : Int → Prop) (w : World) (e : Ending) (w' : World) : Prop := ∃ x : Int, e = .returned (.int .i64 x) ∧ P x ∧ Below w.heap.size w w'

theorem below_pick {w a b : World} {g K : Nat} (h : Below w.heap.size w a) (hr : Rdr a w.heap.size g K) (hg : a.grownBy b (some g)) : Below w.heap.size w b :=
  h.grown hg h.size (fun k e => by injection e with e; subst e; exact hr.1)




end Go.Proofs.YtgmdljlbiokcaaaDoor
