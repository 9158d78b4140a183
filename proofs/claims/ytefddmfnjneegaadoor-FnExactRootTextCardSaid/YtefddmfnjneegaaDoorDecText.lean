/-
  Numbers in decimals: strconv.Itoa and the reference's l6Dec, in general.
-/
import Derived.Test.YtefddmfnjneegaaDoorShelf
import Derived.Test.YtefddmfnjneegaaDoorScalar
import Derived.Shelf.Strconv.Itoa3
import Derived.Laws.IdiomStrings
import Derived.Lib.AppendIntMem
namespace Go.Proofs.YtefddmfnjneegaaDoor
open Go.ChangeShapes Go.WideShapes Go.ChangeAt Go.RowKit Go.Deep Go.Joins
set_option linter.unusedVariables false
set_option maxRecDepth 100000

theorem ba_ext {a b : ByteArray} (h : a.data.toList = b.data.toList) : a = b := by
  cases a; cases b; simp at h; simp [h]
theorem ba_app (a b : ByteArray) : (a ++ b).data.toList = a.data.toList ++ b.data.toList := by
  rw [ByteArray.data_append, Array.toList_append]
/-- a number's text -/
def decS (u : Nat) : ByteArray := ⟨(Lib.decDigits u).toArray⟩
theorem dec1 {u : Nat} (hu : u < 10) : decS u = ⟨#[UInt8.ofNat (48 + u)]⟩ := by unfold decS; rw [Lib.decDigits_one hu]
theorem dec1_size {u : Nat} (hu : u < 10) : (decS u).size = 1 := by rw [dec1 hu]; rfl
theorem decN {u : Nat} (h : ¬ u < 10) : decS u = decS (u / 10) ++ ⟨#[UInt8.ofNat (48 + u % 10)]⟩ := by
  refine ba_ext ?_
  rw [ba_app]
  unfold decS
  conv => lhs; rw [Lib.decDigits, dif_neg h]
theorem dec_le (k : Nat) : ∀ u : Nat, u < 10 ^ (k + 1) → (decS u).size ≤ k + 1 := by
  induction k with
  | zero => intro u hu; rw [dec1_size (by simpa using hu)]; exact Nat.le_refl _
  | succ k ih =>
    intro u hu
    by_cases h : u < 10
    · rw [dec1_size h]; omega
    · have := ih (u / 10) (by rw [Nat.pow_succ] at hu; omega)
      rw [decN h, ByteArray.size_append]
      have e : (⟨#[UInt8.ofNat (48 + u % 10)]⟩ : ByteArray).size = 1 := rfl
      omega

/-- the library's table of powers -/
abbrev TabP (w : World) : Prop := Lib.TabIs Tryd.prog w "internal/strconv.uint64pow10" .u64 Lib.pow10Tab
theorem tabP_bel {w w' : World} (h : TabP w) (hb : Below w.heap.size w w') : TabP w' := Lib.tabBelow_of_tabIs h w' hb

theorem impl_dec (u : Nat) (hu : u ≤ 1000000000) (w : World) (hT : TabP w) : Calls Tryd.prog 22 #[.int .i64 u] w fun e w' => e = .returned (.string (decS u)) ∧ Below w.heap.size w w' :=
  (Any.strconv_Itoa Tryd.laysM171 u (by omega) (by omega) w hT).mono fun e w' ⟨h, k, os, hw⟩ => by
    subst hw
    refine ⟨?_, Lib.below_grow _ w (Nat.le_refl _) k os⟩
    rw [h]
    unfold decS Lib.itoa
    rw [if_neg (by omega), Int.toNat_natCast]

theorem run_str1 (w : World) (x : UInt8) (g : Nat) (h : w.cell? ⟨g, 0, none⟩ = some (.int .u8 (x.toNat : Int))) : (convert 32 9 (.slice (some ⟨g, 0, none⟩) 1 1)).run Tryd.prog w = .ok (.string ⟨#[x]⟩) w := by
  exact run_convert_bytes_back w 32 9 5 ⟨g, 0, none⟩ 1 [x] Tryd.underlying32 Tryd.underlying5 Tryd.underlying9 (by
    intro j hj
    have : j = 0 := by simp at hj; omega
    subst this
    simpa [Addr.add] using h)
theorem ret_str {a b : ByteArray} (h : a = b) : Ending.returned (.string a) = .returned (.string b) := by rw [h]
theorem ofNat_toNat {u : Nat} (hu : u < 10) : ((UInt8.ofNat (48 + u)).toNat : Int) = 48 + u := by simp; omega
theorem one_size (x : UInt8) : (⟨#[x]⟩ : ByteArray).size = 1 := rfl

theorem spec_dec1 (u : Nat) (hu : u < 10) (w : World) : Calls Tryd.prog 20 #[.int .i64 u] w fun e w' => e = .returned (.string (decS u)) ∧ Below w.heap.size w w' := by
  obtain ⟨x, hx⟩ : ∃ x, UInt8.ofNat (48 + u) = x := ⟨_, rfl⟩
  have hxi : (x.toNat : Int) = 48 + u := hx ▸ ofNat_toNat hu
  have hcv := run_str1 (w.alloc (.cells #[.int .u8 (48 + (u : Int))] 5)) x w.heap.size (by rw [hxi]; exact (Own.new w 5 #[.int .u8 (48 + (u : Int))]).cell 0)
  have hw : IntKind.u8.wrap (48 + (u : Int)) = 48 + u := by simp [IntKind.wrap, IntKind.bits, IntKind.signed]; omega
  have hd := dec1 hu
  rw [hx] at hd
  have HD := Lib.hid hd
  clear hd hx hxi
  go_enter Tryd.func20, Tryd.ntmps20
  go_wp2
  go_ret
  exact ⟨ret_str HD.out.symm, (by repeat (first | exact Below.refl _ _ | assumption | refine bel_drewN ?_ _ | refine bel_drew ?_ | refine bel_alloc ?_ _ | refine bel_set ?_ (by simp; omega) _ | refine bel_set ?_ (by simp) _ | refine bel_trans ?_ (by assumption)))⟩

set_option maxHeartbeats 2000000 in
theorem spec_dec2 (u : Nat) (hu : u ≤ 1000000000) (h1 : ¬ u < 10) (w : World)
    (HR : RowKit.Hid (∀ w, Calls Tryd.prog 20 #[.int .i64 ((u / 10 : Nat) : Int)] w fun e w' => e = .returned (.string (decS (u / 10))) ∧ Below w.heap.size w w')) :
    Calls Tryd.prog 20 #[.int .i64 u] w fun e w' => e = .returned (.string (decS u)) ∧ Below w.heap.size w w' := by
  obtain ⟨a, ha⟩ : ∃ a, u / 10 = a := ⟨_, rfl⟩
  obtain ⟨r, hr⟩ : ∃ r, u % 10 = r := ⟨_, rfl⟩
  have hd := decN h1
  rw [ha, hr] at hd
  rw [ha] at HR
  have hza : (decS a).size ≤ 10 := dec_le 9 a (by rw [show 10 ^ (9 + 1) = 10000000000 by decide]; omega)
  have hr10 : r < 10 := by omega
  obtain ⟨x, hx⟩ : ∃ x, UInt8.ofNat (48 + r) = x := ⟨_, rfl⟩
  have hxi : (x.toNat : Int) = 48 + r := hx ▸ ofNat_toNat hr10
  rw [hx] at hd
  have HD := Lib.hid hd
  have HX := Lib.hid hxi
  have z2 := one_size x
  have hadd : ∀ W : World, (Op.stringOp .add (decS a) ⟨#[x]⟩).run Tryd.prog W = .ok (.string (decS a ++ ⟨#[x]⟩)) W := fun W => run_string_add_sum W _ _ (by rw [z2]; omega)
  have d10 : decide ((u : Int) < 10) = false := by simp; omega
  have ha0 : (0 : Int) ≤ a := by omega
  have hau : (a : Int) ≤ 1000000000 := by omega
  have e1 : (u : Int) / 10 = a := by omega
  have e2 : (u : Int) % 10 = r := by omega
  have e3 : (u : Int).tdiv 10 = a := by rw [Int.tdiv_eq_ediv_of_nonneg (by omega)]; exact e1
  have e4 : (u : Int).tmod 10 = r := by rw [Int.tmod_eq_emod_of_nonneg (by omega)]; exact e2
  have hw : IntKind.u8.wrap (48 + (r : Int)) = 48 + r := by simp [IntKind.wrap, IntKind.bits, IntKind.signed]; omega
  have hw3 : IntKind.i64.wrap (a : Int) = a := IntWalk.i64_in _ (by omega)
  have hw2 : IntKind.i64.wrap (48 + (r : Int)) = 48 + r := IntWalk.i64_in _ (by omega)
  have hB := run_str1 (w.alloc (.cells #[.int .u8 (48 + (r : Int))] 5)).drew x w.heap.size (by rw [hxi]; exact (Own.new w 5 #[.int .u8 (48 + (r : Int))]).cell 0)
  clear hd h1 hx hxi ha hr hza z2
  go_enter Tryd.func20, Tryd.ntmps20
  go_wp2_with fail
  go_region_with (go_at_call 20; refine (HR.out _).mono ?_; rintro e w1 ⟨rfl, hb1⟩; first
    | (have L1 : Below w.heap.size w w1 := bel_trans (a := w.drew) (bel_drew (Below.refl _ _)) hb1; have hA := run_str1 (w1.alloc (.cells #[.int .u8 (48 + (r : Int))] 5)) x w1.heap.size (by rw [HX.out]; exact (Own.new w1 5 #[.int .u8 (48 + (r : Int))]).cell 0))
    | (have L1 : Below w.heap.size w w1 := bel_trans (a := (w.alloc (.cells #[.int .u8 (48 + (r : Int))] 5)).drew) (bel_drew (bel_alloc (Below.refl _ _) _)) hb1; have hC := run_str1 w1 x w.heap.size (by rw [HX.out]; exact (Own.below (w := (w.alloc (.cells #[.int .u8 (48 + (r : Int))] 5)).drew) (Own.new w 5 #[.int .u8 (48 + (r : Int))]) hb1).cell 0)))
  all_goals
    go_wp2_with fail
    go_ret
    exact ⟨ret_str HD.out.symm, (by repeat (first | exact Below.refl _ _ | assumption | refine bel_drewN ?_ _ | refine bel_drew ?_ | refine bel_alloc ?_ _ | refine bel_set ?_ (by simp; omega) _ | refine bel_set ?_ (by simp) _ | refine bel_trans ?_ (by assumption)))⟩
theorem spec_dec (u : Nat) : u ≤ 1000000000 → ∀ w : World, Calls Tryd.prog 20 #[.int .i64 u] w fun e w' => e = .returned (.string (decS u)) ∧ Below w.heap.size w w' := by
  induction u using Nat.strongRecOn with
  | ind u ih =>
    intro hu w
    by_cases h : u < 10
    · exact spec_dec1 u h w
    · exact spec_dec2 u hu h w (Lib.hid (fun w => ih (u / 10) (by omega) (by omega) w))

end Go.Proofs.YtefddmfnjneegaaDoor
