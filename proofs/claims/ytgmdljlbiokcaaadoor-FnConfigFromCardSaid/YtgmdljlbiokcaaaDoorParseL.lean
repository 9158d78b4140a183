/-
  The reference's small readers: a letter's number, a number of one or two digits.
-/
import Derived.Test.YtgmdljlbiokcaaaDoorParsePlain
import Derived.Test.YtgmdljlbiokcaaaDoorIndexR
import Derived.Deep.LoopGhost
namespace Go.Proofs.YtgmdljlbiokcaaaDoor
open Go.ChangeShapes Go.WideShapes Go.ChangeAt Go.RowKit Go.Deep Go.Joins
set_option linter.unusedVariables false
set_option maxRecDepth 100000

theorem letV_cases (b : UInt8) : (letV b = 0 ∧ (b.toNat : Int) = 115) ∨ (letV b = 1 ∧ (b.toNat : Int) = 112) ∨ (letV b = 2 ∧ (b.toNat : Int) = 100) ∨ (letV b = 3 ∧ (b.toNat : Int) = 102) ∨ (letV b = -1 ∧ (b.toNat : Int) ≠ 115 ∧ (b.toNat : Int) ≠ 112 ∧ (b.toNat : Int) ≠ 100 ∧ (b.toNat : Int) ≠ 102) := by
  have key : ∀ k : Nat, k < 256 → ((b.toNat : Int) = k ↔ b = UInt8.ofNat k) := by
    intro k hk
    constructor
    · intro h
      have h2 : b.toNat = k := by omega
      rw [← h2]; simp
    · intro h
      rw [h]; simp; omega
  have k1 := key 115 (by omega)
  have k2 := key 112 (by omega)
  have k3 := key 100 (by omega)
  have k4 := key 102 (by omega)
  unfold letV
  by_cases h1 : b = 115
  · exact .inl ⟨if_pos h1, k1.2 h1⟩
  · rw [if_neg h1]
    by_cases h2 : b = 112
    · exact .inr (.inl ⟨if_pos h2, k2.2 h2⟩)
    · rw [if_neg h2]
      by_cases h3 : b = 100
      · exact .inr (.inr (.inl ⟨if_pos h3, k3.2 h3⟩))
      · rw [if_neg h3]
        by_cases h4 : b = 102
        · exact .inr (.inr (.inr (.inl ⟨if_pos h4, k4.2 h4⟩)))
        · rw [if_neg h4]
          exact .inr (.inr (.inr (.inr ⟨rfl, fun h => h1 (k1.1 h), fun h => h2 (k2.1 h), fun h => h3 (k3.1 h), fun h => h4 (k4.1 h)⟩)))

set_option maxHeartbeats 4000000 in
theorem spec_let (b : UInt8) (w : World) : Calls Tryd.prog 35 #[.int .u8 b.toNat] w fun e w' => e = .returned (.int .i64 (letV b)) ∧ w = w' := by
  have hL := letV_cases b
  obtain ⟨x, hx⟩ : ∃ x : Int, (b.toNat : Int) = x := ⟨_, rfl⟩
  obtain ⟨L, hl⟩ : ∃ L, letV b = L := ⟨_, rfl⟩
  rw [hx, hl] at hL
  rw [hx, hl]
  clear hx hl
  have HL := Lib.hid hL
  clear hL
  have s0 : ∀ h, (spdf[0]'h).toNat = 115 := fun _ => rfl
  have s1 : ∀ h, (spdf[1]'h).toNat = 112 := fun _ => rfl
  have s2 : ∀ h, (spdf[2]'h).toNat = 100 := fun _ => rfl
  have s3 : ∀ h, (spdf[3]'h).toNat = 102 := fun _ => rfl
  go_enter Tryd.func35, Tryd.ntmps35
  go_wp2_with fail
  go_loopg [3] 4 (fun g i wx => ∃ k : Nat, k + g = 4 ∧ i = .int .i64 k ∧ wx = w ∧ (L = -1 ∨ (k : Int) ≤ L))
  case atStart => exact ⟨0, by omega, rfl, rfl, by have := HL.out; omega⟩
  case round =>
    obtain ⟨k, hk, rfl, rfl, hr⟩ := hrel
    have HR := Lib.hid hr
    clear hr
    rcases (by omega : k = 0 ∨ k = 1 ∨ k = 2 ∨ k = 3 ∨ k = 4) with rfl | rfl | rfl | rfl | rfl
    · obtain rfl : gk = 4 := by omega
      by_cases hq : x = 115
      · obtain rfl : L = 0 := by have := HL.out; omega
        subst hq
        clear hk HR HL
        go_wp2_with fail
        go_ret
        exact ⟨rfl, rfl⟩
      · have hb : ((115 : Int) == x) = false := by simp; omega
        have hr2 : L = -1 ∨ ((1 : Nat) : Int) ≤ L := by have := HL.out; have := HR.out; omega
        have HR2 := Lib.hid hr2
        clear hr2 hq hk HR HL
        go_wp2_with fail
        go_roundg 3
        case measure => omega
        case rel => exact ⟨1, rfl, rfl, rfl, HR2.out⟩
    · obtain rfl : gk = 3 := by omega
      by_cases hq : x = 112
      · obtain rfl : L = 1 := by have := HL.out; omega
        subst hq
        clear hk HR HL
        go_wp2_with fail
        go_ret
        exact ⟨rfl, rfl⟩
      · have hb : ((112 : Int) == x) = false := by simp; omega
        have hr2 : L = -1 ∨ ((2 : Nat) : Int) ≤ L := by have := HL.out; have := HR.out; omega
        have HR2 := Lib.hid hr2
        clear hr2 hq hk HR HL
        go_wp2_with fail
        go_roundg 2
        case measure => omega
        case rel => exact ⟨2, rfl, rfl, rfl, HR2.out⟩
    · obtain rfl : gk = 2 := by omega
      by_cases hq : x = 100
      · obtain rfl : L = 2 := by have := HL.out; omega
        subst hq
        clear hk HR HL
        go_wp2_with fail
        go_ret
        exact ⟨rfl, rfl⟩
      · have hb : ((100 : Int) == x) = false := by simp; omega
        have hr2 : L = -1 ∨ ((3 : Nat) : Int) ≤ L := by have := HL.out; have := HR.out; omega
        have HR2 := Lib.hid hr2
        clear hr2 hq hk HR HL
        go_wp2_with fail
        go_roundg 1
        case measure => omega
        case rel => exact ⟨3, rfl, rfl, rfl, HR2.out⟩
    · obtain rfl : gk = 1 := by omega
      by_cases hq : x = 102
      · obtain rfl : L = 3 := by have := HL.out; omega
        subst hq
        clear hk HR HL
        go_wp2_with fail
        go_ret
        exact ⟨rfl, rfl⟩
      · have hb : ((102 : Int) == x) = false := by simp; omega
        have hr2 : L = -1 ∨ ((4 : Nat) : Int) ≤ L := by have := HL.out; have := HR.out; omega
        have HR2 := Lib.hid hr2
        clear hr2 hq hk HR HL
        go_wp2_with fail
        go_roundg 0
        case measure => omega
        case rel => exact ⟨4, rfl, rfl, rfl, HR2.out⟩
    · obtain rfl : L = -1 := by have := HL.out; have := HR.out; omega
      clear hk HR HL
      go_wp2_with fail
      go_ret
      exact ⟨rfl, rfl⟩

/-- one digit -/
theorem dig_one (a : UInt8) : (digI [a] = (a.toNat : Int) - 48 ∧ 48 ≤ (a.toNat : Int) ∧ (a.toNat : Int) ≤ 57) ∨ (digI [a] = -1 ∧ ((a.toNat : Int) < 48 ∨ 57 < (a.toNat : Int))) := by
  have e : digI [a] = if 48 ≤ a.toNat ∧ a.toNat ≤ 57 then (a.toNat : Int) - 48 else -1 := rfl
  rw [e]
  split
  · left; omega
  · right; omega
theorem dig_two (a b : UInt8) : (digI [a, b] = 10 * ((a.toNat : Int) - 48) + ((b.toNat : Int) - 48) ∧ 48 ≤ (a.toNat : Int) ∧ (a.toNat : Int) ≤ 57 ∧ 48 ≤ (b.toNat : Int) ∧ (b.toNat : Int) ≤ 57) ∨
    (digI [a, b] = -1 ∧ (((a.toNat : Int) < 48 ∨ 57 < (a.toNat : Int)) ∨ (48 ≤ (a.toNat : Int) ∧ (a.toNat : Int) ≤ 57 ∧ ((b.toNat : Int) < 48 ∨ 57 < (b.toNat : Int))))) := by
  have e : digI [a, b] = if 48 ≤ a.toNat ∧ a.toNat ≤ 57 then (if 48 ≤ b.toNat ∧ b.toNat ≤ 57 then 10 * ((a.toNat : Int) - 48) + ((b.toNat : Int) - 48) else -1) else -1 := rfl
  rw [e]
  split
  · split
    · left; omega
    · right; omega
  · right; omega

set_option maxHeartbeats 4000000 in
theorem spec_dig1 (a : UInt8) (w : World) : Calls Tryd.prog 36 #[.string ⟨#[a]⟩] w fun e w' => e = .returned (.int .i64 (digI [a])) ∧ w = w' := by
  have hD := dig_one a
  have ha : (a.toNat : Int) < 256 := by have := a.toNat_lt; omega
  have s0 : ∀ h, (((⟨#[a]⟩ : ByteArray)[0]'h).toNat : Int) = a.toNat := fun _ => rfl
  generalize digI [a] = D at *
  obtain ⟨x, hx⟩ : ∃ x : Int, (a.toNat : Int) = x := ⟨_, rfl⟩
  rw [hx] at hD ha
  simp only [hx] at s0
  clear hx
  rcases hD with ⟨hd, h1, h2⟩ | ⟨hd, h1⟩
  · have e1 : decide (x < 48) = false := by simp; omega
    have e2 : decide (57 < x) = false := by simp; omega
    have w1 : IntKind.u8.wrap (x - 48) = x - 48 := by simp [IntKind.wrap, IntKind.bits, IntKind.signed]; omega
    have w2 : IntKind.i64.wrap (x - 48) = x - 48 := IntWalk.i64_in _ (by omega)
    have HD := Lib.hid hd
    clear hd h1 h2 ha
    go_enter Tryd.func36, Tryd.ntmps36
    go_wp2_with (go_at_call 47; refine (in_any _ _ _ _).mono ?_; rintro e w' ⟨rfl, rfl⟩)
    go_loopg [3, 4] 1 (fun g n i wx => wx = w ∧ ((g = 1 ∧ n = .int .i64 0 ∧ i = .int .i64 0) ∨ (g = 0 ∧ n = .int .i64 (x - 48) ∧ i = .int .i64 1)))
    case atStart => exact ⟨rfl, .inl ⟨rfl, rfl, rfl⟩⟩
    case round =>
      obtain ⟨rfl, hr⟩ := hrel
      rcases hr with ⟨rfl, rfl, rfl⟩ | ⟨rfl, rfl, rfl⟩
      · go_wp2_with fail
        go_roundg 0
        case measure => omega
        case rel => exact ⟨rfl, .inr ⟨rfl, by simp, rfl⟩⟩
      · go_wp2_with fail
        go_ret
        exact ⟨ret_int HD.out.symm, rfl⟩
  · rcases h1 with h1 | h1
    · have e1 : decide (x < 48) = true := by simp; omega
      have HD := Lib.hid hd
      clear hd h1 ha
      go_enter Tryd.func36, Tryd.ntmps36
      go_wp2_with (go_at_call 47; refine (in_any _ _ _ _).mono ?_; rintro e w' ⟨rfl, rfl⟩)
      go_loopg [3, 4] 1 (fun g n i wx => wx = w ∧ n = .int .i64 0 ∧ i = .int .i64 0)
      case atStart => exact ⟨rfl, rfl, rfl⟩
      case round =>
        obtain ⟨rfl, rfl, rfl⟩ := hrel
        go_wp2_with fail
        go_ret
        exact ⟨ret_int HD.out.symm, rfl⟩
    · have e1 : decide (x < 48) = false := by simp; omega
      have e2 : decide (57 < x) = true := by simp; omega
      have HD := Lib.hid hd
      clear hd h1 ha
      go_enter Tryd.func36, Tryd.ntmps36
      go_wp2_with (go_at_call 47; refine (in_any _ _ _ _).mono ?_; rintro e w' ⟨rfl, rfl⟩)
      go_loopg [3, 4] 1 (fun g n i wx => wx = w ∧ n = .int .i64 0 ∧ i = .int .i64 0)
      case atStart => exact ⟨rfl, rfl, rfl⟩
      case round =>
        obtain ⟨rfl, rfl, rfl⟩ := hrel
        go_wp2_with fail
        go_ret
        exact ⟨ret_int HD.out.symm, rfl⟩

set_option maxHeartbeats 8000000 in
theorem spec_dig2 (a b : UInt8) (w : World) : Calls Tryd.prog 36 #[.string ⟨#[a, b]⟩] w fun e w' => e = .returned (.int .i64 (digI [a, b])) ∧ w = w' := by
  have hD := dig_two a b
  have ha : (a.toNat : Int) < 256 := by have := a.toNat_lt; omega
  have hb : (b.toNat : Int) < 256 := by have := b.toNat_lt; omega
  have s0 : ∀ h, (((⟨#[a, b]⟩ : ByteArray)[0]'h).toNat : Int) = a.toNat := fun _ => rfl
  have s1 : ∀ h, (((⟨#[a, b]⟩ : ByteArray)[1]'h).toNat : Int) = b.toNat := fun _ => rfl
  generalize digI [a, b] = D at *
  obtain ⟨x, hx⟩ : ∃ x : Int, (a.toNat : Int) = x := ⟨_, rfl⟩
  obtain ⟨y, hy⟩ : ∃ y : Int, (b.toNat : Int) = y := ⟨_, rfl⟩
  rw [hx, hy] at hD
  rw [hx] at ha
  rw [hy] at hb
  simp only [hx] at s0
  simp only [hy] at s1
  clear hx hy
  rcases hD with ⟨hd, h1, h2, h3, h4⟩ | ⟨hd, h1⟩
  · have e1 : decide (x < 48) = false := by simp; omega
    have e2 : decide (57 < x) = false := by simp; omega
    have e3 : decide (y < 48) = false := by simp; omega
    have e4 : decide (57 < y) = false := by simp; omega
    have w1 : IntKind.u8.wrap (x - 48) = x - 48 := by simp [IntKind.wrap, IntKind.bits, IntKind.signed]; omega
    have w2 : IntKind.i64.wrap (x - 48) = x - 48 := IntWalk.i64_in _ (by omega)
    have w3 : IntKind.u8.wrap (y - 48) = y - 48 := by simp [IntKind.wrap, IntKind.bits, IntKind.signed]; omega
    have w4 : IntKind.i64.wrap (10 * (x - 48)) = 10 * (x - 48) := IntWalk.i64_in _ (by omega)
    have w5 : IntKind.i64.wrap (10 * (x - 48) + (y - 48)) = 10 * (x - 48) + (y - 48) := IntWalk.i64_in _ (by omega)
    have w6 : IntKind.i64.wrap (y - 48) = y - 48 := IntWalk.i64_in _ (by omega)
    have HD := Lib.hid hd
    clear hd h1 h2 h3 h4 ha hb
    go_enter Tryd.func36, Tryd.ntmps36
    go_wp2_with (go_at_call 47; refine (in_any _ _ _ _).mono ?_; rintro e w' ⟨rfl, rfl⟩)
    go_loopg [3, 4] 2 (fun g n i wx => wx = w ∧ ((g = 2 ∧ n = .int .i64 0 ∧ i = .int .i64 0) ∨ (g = 1 ∧ n = .int .i64 (x - 48) ∧ i = .int .i64 1) ∨ (g = 0 ∧ n = .int .i64 (10 * (x - 48) + (y - 48)) ∧ i = .int .i64 2)))
    case atStart => exact ⟨rfl, .inl ⟨rfl, rfl, rfl⟩⟩
    case round =>
      obtain ⟨rfl, hr⟩ := hrel
      rcases hr with ⟨rfl, rfl, rfl⟩ | ⟨rfl, rfl, rfl⟩ | ⟨rfl, rfl, rfl⟩
      · go_wp2_with fail
        go_roundg 1
        case measure => omega
        case rel => exact ⟨rfl, .inr (.inl ⟨rfl, by simp, rfl⟩)⟩
      · go_wp2_with fail
        go_roundg 0
        case measure => omega
        case rel => exact ⟨rfl, .inr (.inr ⟨rfl, by simp, rfl⟩)⟩
      · go_wp2_with fail
        go_ret
        exact ⟨ret_int HD.out.symm, rfl⟩
  · rcases h1 with (h1 | h1) | ⟨h1, h2, h3⟩
    · have e1 : decide (x < 48) = true := by simp; omega
      have HD := Lib.hid hd
      clear hd h1 ha hb
      go_enter Tryd.func36, Tryd.ntmps36
      go_wp2_with (go_at_call 47; refine (in_any _ _ _ _).mono ?_; rintro e w' ⟨rfl, rfl⟩)
      go_loopg [3, 4] 2 (fun g n i wx => wx = w ∧ n = .int .i64 0 ∧ i = .int .i64 0)
      case atStart => exact ⟨rfl, rfl, rfl⟩
      case round =>
        obtain ⟨rfl, rfl, rfl⟩ := hrel
        go_wp2_with fail
        go_ret
        exact ⟨ret_int HD.out.symm, rfl⟩
    · have e1 : decide (x < 48) = false := by simp; omega
      have e2 : decide (57 < x) = true := by simp; omega
      have HD := Lib.hid hd
      clear hd h1 ha hb
      go_enter Tryd.func36, Tryd.ntmps36
      go_wp2_with (go_at_call 47; refine (in_any _ _ _ _).mono ?_; rintro e w' ⟨rfl, rfl⟩)
      go_loopg [3, 4] 2 (fun g n i wx => wx = w ∧ n = .int .i64 0 ∧ i = .int .i64 0)
      case atStart => exact ⟨rfl, rfl, rfl⟩
      case round =>
        obtain ⟨rfl, rfl, rfl⟩ := hrel
        go_wp2_with fail
        go_ret
        exact ⟨ret_int HD.out.symm, rfl⟩
    · have e1 : decide (x < 48) = false := by simp; omega
      have e2 : decide (57 < x) = false := by simp; omega
      have w1 : IntKind.u8.wrap (x - 48) = x - 48 := by simp [IntKind.wrap, IntKind.bits, IntKind.signed]; omega
      have w2 : IntKind.i64.wrap (x - 48) = x - 48 := IntWalk.i64_in _ (by omega)
      have HD := Lib.hid hd
      rcases h3 with h3 | h3
      · have e3 : decide (y < 48) = true := by simp; omega
        clear hd h1 h2 h3 ha hb
        go_enter Tryd.func36, Tryd.ntmps36
        go_wp2_with (go_at_call 47; refine (in_any _ _ _ _).mono ?_; rintro e w' ⟨rfl, rfl⟩)
        go_loopg [3, 4] 2 (fun g n i wx => wx = w ∧ ((g = 2 ∧ n = .int .i64 0 ∧ i = .int .i64 0) ∨ (g = 1 ∧ n = .int .i64 (x - 48) ∧ i = .int .i64 1)))
        case atStart => exact ⟨rfl, .inl ⟨rfl, rfl, rfl⟩⟩
        case round =>
          obtain ⟨rfl, hr⟩ := hrel
          rcases hr with ⟨rfl, rfl, rfl⟩ | ⟨rfl, rfl, rfl⟩
          · go_wp2_with fail
            go_roundg 1
            case measure => omega
            case rel => exact ⟨rfl, .inr ⟨rfl, by simp, rfl⟩⟩
          · go_wp2_with fail
            go_ret
            exact ⟨ret_int HD.out.symm, rfl⟩
      · have e3 : decide (y < 48) = false := by simp; omega
        have e4 : decide (57 < y) = true := by simp; omega
        clear hd h1 h2 h3 ha hb
        go_enter Tryd.func36, Tryd.ntmps36
        go_wp2_with (go_at_call 47; refine (in_any _ _ _ _).mono ?_; rintro e w' ⟨rfl, rfl⟩)
        go_loopg [3, 4] 2 (fun g n i wx => wx = w ∧ ((g = 2 ∧ n = .int .i64 0 ∧ i = .int .i64 0) ∨ (g = 1 ∧ n = .int .i64 (x - 48) ∧ i = .int .i64 1)))
        case atStart => exact ⟨rfl, .inl ⟨rfl, rfl, rfl⟩⟩
        case round =>
          obtain ⟨rfl, hr⟩ := hrel
          rcases hr with ⟨rfl, rfl, rfl⟩ | ⟨rfl, rfl, rfl⟩
          · go_wp2_with fail
            go_roundg 1
            case measure => omega
            case rel => exact ⟨rfl, .inr ⟨rfl, by simp, rfl⟩⟩
          · go_wp2_with fail
            go_ret
            exact ⟨ret_int HD.out.symm, rfl⟩

end Go.Proofs.YtgmdljlbiokcaaaDoor
