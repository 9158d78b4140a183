/-
  strings.IndexRune at the four letters of the orbital numbers, at each rune.
-/
import Derived.Test.YtgmdljlbiokcaaaDoorShelf
import Derived.Test.YtgmdljlbiokcaaaDoorParsePlain
import Derived.Test.YtgmdljlbiokcaaaDoorLaw
import Derived.Shelf.Strings.Runes
import Derived.Laws.Runes
import Derived.Laws.RangeString
import Derived.Deep.LoopGhost
import Derived.WalkMore
namespace Go.Proofs.YtgmdljlbiokcaaaDoor
open Go.ChangeShapes Go.WideShapes Go.ChangeAt Go.RowKit Go.Deep Go.Joins
set_option linter.unusedVariables false
set_option maxRecDepth 100000

theorem quiet_left2 {P : Program} {f : FuncId} {args : Array Value} {w : World} {k n : Nat} {v : Value} (h : Calls P f args (w.drewN (k + n)) fun e w' => e = .returned v ∧ w.drewN (k + n) = w') :
    Calls P f args (w.drewN (k + n)) fun e w'' => e = .returned v ∧ ∃ m, w'' = w.drewN (k + m) := h.mono fun _ _ ⟨he, hm⟩ => ⟨he, n, hm.symm⟩
abbrev spdf : ByteArray := ⟨#[115, 112, 100, 102]⟩
theorem ir_ascii (r : Nat) (w : World) (h : r < 128) : Calls Tryd.prog 34 #[.string spdf, .int .i32 r] w fun e w' => e = .returned (.int .i64 (Lib.indexByte [115, 112, 100, 102] r.toUInt8)) ∧ w' = w := by
  have := Any.strings_IndexRune_ascii Tryd.lays152 spdf r w (by omega) (by omega)
  exact this

theorem spdf_low (i : Nat) (h : i < 4) : (spdf[i]'h).toNat < 128 ∧ ((spdf[i]'h).toNat : Int) ≠ 65533 := by
  have : i = 0 ∨ i = 1 ∨ i = 2 ∨ i = 3 := by omega
  rcases this with rfl | rfl | rfl | rfl
  · exact (by decide : (spdf[0]'(by decide)).toNat < 128 ∧ ((spdf[0]'(by decide)).toNat : Int) ≠ 65533)
  · exact (by decide : (spdf[1]'(by decide)).toNat < 128 ∧ ((spdf[1]'(by decide)).toNat : Int) ≠ 65533)
  · exact (by decide : (spdf[2]'(by decide)).toNat < 128 ∧ ((spdf[2]'(by decide)).toNat : Int) ≠ 65533)
  · exact (by decide : (spdf[3]'(by decide)).toNat < 128 ∧ ((spdf[3]'(by decide)).toNat : Int) ≠ 65533)
set_option maxHeartbeats 4000000 in
theorem ir_err (w : World) : Calls Tryd.prog 34 #[.string spdf, .int .i32 65533] w fun e w' => e = .returned (.int .i64 (-1)) ∧ Below w.heap.size w w' := by
  go_enter Tryd.func34, Tryd.ntmps34
  go_wp2_with fail
  go_loopg [5, 6] 4 (fun g _ _ wx => ∃ i : Nat, i + g = 4 ∧ wx = w.iter spdf i)
  case atStart => exact ⟨0, by omega, rfl⟩
  case round =>
    obtain ⟨i, hig, rfl⟩ := hrel
    cases gk with
    | zero =>
      obtain rfl : i = 4 := by omega
      have hnx := run_next_end (P := Tryd.prog) w spdf 4
      have hsz : ¬ (4 < spdf.size) := by decide
      go_wp2_with fail
      go_ret
      exact ⟨rfl, bel_alloc (Below.refl _ _) _⟩
    | succ g =>
      have hi : i < spdf.size := by show i < 4; omega
      have hlo := spdf_low i hi
      have hnx := fun ty => run_next_ascii (P := Tryd.prog) w spdf i ty hi hlo.1
      have hne := hlo.2
      obtain ⟨x, hx⟩ : ∃ x : Int, ((spdf[i]'hi).toNat : Int) = x := ⟨_, rfl⟩
      rw [hx] at hnx hne
      have hb : (x == 65533) = false := by simpa using hne
      clear hx hlo hne
      go_wp2_with fail
      go_roundg g
      case measure => omega
      case rel => exact ⟨i + 1, by omega, rfl⟩

theorem index_low : ∀ (l : List UInt8) (c : UInt8), (∀ b ∈ l, b.toNat < 128) → 128 ≤ c.toNat → Lib.indexByte l c = -1
  | [], c, _, _ => rfl
  | b :: l, c, h, hc => by
    have ih := index_low l c (fun x hx => h x (by simp [hx])) hc
    have hb := h b (by simp)
    unfold Lib.indexByte
    rw [ih, if_neg (by simp; intro e; subst e; omega)]
    rfl
theorem ib_none (i : Nat) (b : UInt8) (hb : 128 ≤ b.toNat) (w : World) : Calls Tryd.prog 50 #[.string (spdf.extract i 4), .int .u8 b.toNat] w fun e w' => e = .returned (.int .i64 (-1)) ∧ w = w' := by
  refine (Any.strings_IndexByte Tryd.lays137 (spdf.extract i 4) b.toNat w).mono ?_
  rintro e w' ⟨rfl, rfl⟩
  refine ⟨?_, rfl⟩
  rw [index_low]
  · intro x hx
    have h2 : (spdf.extract i 4).data.toList = (spdf.data.toList.drop i).take (4 - i) := by simp [ByteArray.data_extract]
    rw [h2] at hx
    have h3 := List.mem_of_mem_drop (List.mem_of_mem_take hx)
    simp at h3
    rcases h3 with rfl | rfl | rfl | rfl <;> decide
  · simp; omega
set_option maxHeartbeats 1000000 in
theorem vr (r : Nat) (w : World) : Calls Tryd.prog 51 #[.int .i32 r] w fun e w' => e = .returned (.bool (Utf8.valid r)) ∧ w = w' := by
  have h0 : (0 : Int) ≤ r := by omega
  by_cases h1 : r < 55296
  · have e : Utf8.valid r = true := by simp [Utf8.valid]; omega
    have h1' : (r : Int) < 55296 := by omega
    rw [e]
    clear e
    go_enter Tryd.func51, Tryd.ntmps51
    go_wp2_with fail
    go_ret
    exact ⟨rfl, rfl⟩
  · have h1' : ¬ (r : Int) < 55296 := by omega
    by_cases h2 : 57343 < r
    · have h2' : (57343 : Int) < r := by omega
      by_cases h3 : r ≤ 1114111
      · have e : Utf8.valid r = true := by simp [Utf8.valid]; omega
        have h3' : (r : Int) ≤ 1114111 := by omega
        rw [e]
        clear e
        go_enter Tryd.func51, Tryd.ntmps51
        go_wp2_with fail
        go_ret
        exact ⟨rfl, rfl⟩
      · have e : Utf8.valid r = false := by simp [Utf8.valid]; omega
        have h3' : ¬ (r : Int) ≤ 1114111 := by omega
        rw [e]
        clear e
        go_enter Tryd.func51, Tryd.ntmps51
        go_wp2_with fail
        go_ret
        exact ⟨rfl, rfl⟩
    · have h2' : ¬ (57343 : Int) < r := by omega
      have e : Utf8.valid r = false := by simp [Utf8.valid]; omega
      rw [e]
      clear e
      go_enter Tryd.func51, Tryd.ntmps51
      go_wp2_with fail
      go_ret
      exact ⟨rfl, rfl⟩
theorem enc3 (r : Nat) (h1 : 128 ≤ r) (hv : Utf8.valid r = true) : (∃ a c : UInt8, Utf8.encode r = ⟨#[a, c]⟩ ∧ 128 ≤ c.toNat) ∨ (∃ a b c : UInt8, Utf8.encode r = ⟨#[a, b, c]⟩ ∧ 128 ≤ c.toNat) ∨ (∃ a b d c : UInt8, Utf8.encode r = ⟨#[a, b, d, c]⟩ ∧ 128 ≤ c.toNat) := by
  have hc : ¬ ((r : Int).toNat < 128) := by omega
  have hlast : 128 ≤ (UInt8.ofNat (128 + (r : Int).toNat % 64)).toNat := by simp; omega
  unfold Utf8.encode
  simp only [hv, if_true, hc, if_false]
  split
  · exact .inl ⟨_, _, rfl, hlast⟩
  · split
    · exact .inr (.inl ⟨_, _, _, rfl, hlast⟩)
    · exact .inr (.inr ⟨_, _, _, _, rfl, hlast⟩)

set_option maxHeartbeats 4000000 in
theorem ir_high (r : Nat) (h1 : 128 ≤ r) (h2 : r ≤ 2147483647) (h3 : r ≠ 65533) (w : World) : Calls Tryd.prog 34 #[.string spdf, .int .i32 r] w fun e w' => e = .returned (.int .i64 (-1)) ∧ Below w.heap.size w w' := by
  have HV := Lib.hid (fun w => vr r w)
  have h1' : ¬ (r : Int) < 128 := by omega
  have h3' : ((r : Int) == 65533) = false := by simp; omega
  cases hv : Utf8.valid r
  · rw [hv] at HV
    clear hv h1 h2 h3
    go_enter Tryd.func34, Tryd.ntmps34
    go_wp2_with fail
    refine (HV.out _).mono ?_
    rintro e w1 ⟨rfl, rfl⟩
    go_wp2_with fail
    go_ret
    exact ⟨rfl, Below.refl _ _⟩
  · have h4 := enc3 r h1 hv
    rw [hv] at HV
    clear hv h1 h2 h3
    go_enter Tryd.func34, Tryd.ntmps34
    go_wp2_with fail
    refine (HV.out _).mono ?_
    rintro e w1 ⟨rfl, rfl⟩
    rcases h4 with ⟨a, c, he, hc⟩ | ⟨a, b, c, he, hc⟩ | ⟨a, b, d, c, he, hc⟩
    · have hcv : ∀ w : World, (convert 21 9 (.int .i32 (r : Int))).run Tryd.prog w = .ok (.string ⟨#[a, c]⟩) w := fun w => by rw [← he]; exact run_convert_int_string w _ _ .i32 r (by rw [Tryd.underlying21]; rfl) Tryd.underlying9
      have HB := Lib.hid (fun w => ib_none 2 c hc w)
      have hg : ∀ h, ((⟨#[a, c]⟩ : ByteArray)[1]'h) = c := fun _ => rfl
      have ew : IntKind.i64.wrap 2 = 2 := by decide
      have hs : ∀ h, (spdf[1]'h).toNat = 112 := fun _ => rfl
      have hn : ((112 : Int) == (c.toNat : Int)) = false := by simp; omega
      have hn2 : ¬ (112 : Int) = (c.toNat : Int) := by omega
      clear he
      go_wp2_with fail
      go_step3
      go_wp2_with fail
      go_loopg [9] 1 (fun g i wx => i = .int .i64 1 ∧ wx = w)
      case atStart => exact ⟨rfl, rfl⟩
      case round =>
        obtain ⟨rfl, rfl⟩ := hrel
        go_wp2_with fail
        go_step3
        go_wp2_with fail
        go_region
        go_wp2_with fail
        go_quiet ((go_at_call 50; exact quiet_left2 (HB.out _)))
        go_wp2_with fail
        simp only [Exit.noGoto_ret, Exit.inBlock, Exit.then]
        go_ret
        exact ⟨rfl, bel_drewN (Below.refl _ _) _⟩
    · have hcv : ∀ w : World, (convert 21 9 (.int .i32 (r : Int))).run Tryd.prog w = .ok (.string ⟨#[a, b, c]⟩) w := fun w => by rw [← he]; exact run_convert_int_string w _ _ .i32 r (by rw [Tryd.underlying21]; rfl) Tryd.underlying9
      have HB := Lib.hid (fun w => ib_none 3 c hc w)
      have hg : ∀ h, ((⟨#[a, b, c]⟩ : ByteArray)[2]'h) = c := fun _ => rfl
      have ew : IntKind.i64.wrap 3 = 3 := by decide
      have hs : ∀ h, (spdf[2]'h).toNat = 100 := fun _ => rfl
      have hn : ((100 : Int) == (c.toNat : Int)) = false := by simp; omega
      have hn2 : ¬ (100 : Int) = (c.toNat : Int) := by omega
      clear he
      go_wp2_with fail
      go_step3
      go_wp2_with fail
      go_loopg [9] 1 (fun g i wx => i = .int .i64 2 ∧ wx = w)
      case atStart => exact ⟨rfl, rfl⟩
      case round =>
        obtain ⟨rfl, rfl⟩ := hrel
        go_wp2_with fail
        go_step3
        go_wp2_with fail
        go_region
        go_wp2_with fail
        go_quiet ((go_at_call 50; exact quiet_left2 (HB.out _)))
        go_wp2_with fail
        simp only [Exit.noGoto_ret, Exit.inBlock, Exit.then]
        go_ret
        exact ⟨rfl, bel_drewN (Below.refl _ _) _⟩
    · have hcv : ∀ w : World, (convert 21 9 (.int .i32 (r : Int))).run Tryd.prog w = .ok (.string ⟨#[a, b, d, c]⟩) w := fun w => by rw [← he]; exact run_convert_int_string w _ _ .i32 r (by rw [Tryd.underlying21]; rfl) Tryd.underlying9
      have HB := Lib.hid (fun w => ib_none 4 c hc w)
      have hg : ∀ h, ((⟨#[a, b, d, c]⟩ : ByteArray)[3]'h) = c := fun _ => rfl
      have ew : IntKind.i64.wrap 4 = 4 := by decide
      have hs : ∀ h, (spdf[3]'h).toNat = 102 := fun _ => rfl
      have hn : ((102 : Int) == (c.toNat : Int)) = false := by simp; omega
      have hn2 : ¬ (102 : Int) = (c.toNat : Int) := by omega
      clear he
      go_wp2_with fail
      go_step3
      go_wp2_with fail
      go_loopg [9] 1 (fun g i wx => i = .int .i64 3 ∧ wx = w)
      case atStart => exact ⟨rfl, rfl⟩
      case round =>
        obtain ⟨rfl, rfl⟩ := hrel
        go_wp2_with fail
        go_step3
        go_wp2_with fail
        go_region
        go_wp2_with fail
        go_quiet ((go_at_call 50; exact quiet_left2 (HB.out _)))
        go_wp2_with fail
        simp only [Exit.noGoto_ret, Exit.inBlock, Exit.then]
        go_ret
        exact ⟨rfl, bel_drewN (Below.refl _ _) _⟩

/-- the place of a rune among the letters -/
def irV (r : Nat) : Int := if r < 128 then Lib.indexByte [115, 112, 100, 102] r.toUInt8 else -1
theorem impl_ir (r : Nat) (h : r ≤ 2147483647) (w : World) : Calls Tryd.prog 34 #[.string spdf, .int .i32 r] w fun e w' => e = .returned (.int .i64 (irV r)) ∧ Below w.heap.size w w' := by
  by_cases h1 : r < 128
  · refine (ir_ascii r w h1).mono ?_
    rintro e w' ⟨rfl, rfl⟩
    exact ⟨by rw [irV, if_pos h1], Below.refl _ _⟩
  · have e1 : irV r = -1 := if_neg h1
    rw [e1]
    by_cases h2 : r = 65533
    · subst h2
      exact ir_err w
    · exact ir_high r (by omega) h h2 w

end Go.Proofs.YtgmdljlbiokcaaaDoor
