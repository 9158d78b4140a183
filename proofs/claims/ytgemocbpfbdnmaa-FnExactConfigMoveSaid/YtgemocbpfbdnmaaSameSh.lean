/-
  The laws' own comparison of two equal lists of shells; the electrons of a shell in a list.
-/
import Derived.Test.YtgemocbpfbdnmaaConfigOpen
namespace Go.Proofs.Ytgemocbpfbdnmaa
open Go.ChangeShapes Go.WideShapes Go.ChangeAt Go.RowKit Go.Deep Go.Joins
set_option linter.unusedVariables false

set_option maxHeartbeats 2000000 in
theorem same_shells (v v' : Value) (l : List Sh) (w : World) (hv : ShAt w w.heap.size v l) (hv' : ShAt w w.heap.size v' l) :
    Calls Try.prog 16 #[v, v'] w fun e w' => e = .returned (.bool true) ∧ Below w.heap.size w w' := by
  obtain ⟨A, c, rfl, hlc, hcm, hc⟩ := hv
  obtain ⟨A', c', rfl, hlc', hcm', hc'⟩ := hv'
  unfold maxLen at hcm hcm'
  go_enter Try.func16, Try.ntmps16
  go_wp2_with fail
  go_loopg [5] l.length (fun gk i wr => ∃ k : Nat, gk = l.length - k ∧ k ≤ l.length ∧ i = .int .i64 k ∧ Below w.heap.size w wr)
  case atStart => exact ⟨0, rfl, by omega, rfl, Below.refl _ _⟩
  case round =>
    obtain ⟨k, rfl, hk, rfl, hbel⟩ := hrel
    by_cases hlt : k < l.length
    · obtain ⟨b, off, rfl, hbl, hcell⟩ := hc (by omega)
      obtain ⟨b', off', rfl, hbl', hcell'⟩ := hc' (by omega)
      obtain ⟨s, hs⟩ : ∃ s, s = l[k] := ⟨_, rfl⟩
      have hgs : l[k]? = some s := by rw [hs, List.getElem?_eq_getElem hlt]
      obtain ⟨c0, c1, c2⟩ := hcell k _ hgs
      obtain ⟨d0, d1, d2⟩ := hcell' k _ hgs
      have c0 := (hbel.cell (p := ⟨b, off + k * 3, none⟩) hbl).trans c0
      have c1 := (hbel.cell (p := ⟨b, off + k * 3 + 1, none⟩) hbl).trans c1
      have c2 := (hbel.cell (p := ⟨b, off + k * 3 + 2, none⟩) hbl).trans c2
      have d0 := (hbel.cell (p := ⟨b', off' + k * 3, none⟩) hbl').trans d0
      have d1 := (hbel.cell (p := ⟨b', off' + k * 3 + 1, none⟩) hbl').trans d1
      have d2 := (hbel.cell (p := ⟨b', off' + k * 3 + 2, none⟩) hbl').trans d2
      have hlt' : (k : Int) < (l.length : Int) := by omega
      clear hgs hs hcell hcell' hc hc'
      go_wp2_with fail
      go_quiet (fail)
      go_wp2_with fail
      go_roundg (l.length - (k + 1))
      case measure => omega
      case rel => exact ⟨k + 1, rfl, by omega, by go_num, (by repeat (first | exact Below.refl _ _ | assumption | refine bel_drewN ?_ _ | refine bel_drew ?_ | refine bel_alloc ?_ _ | refine bel_set ?_ (by simp; omega) _ | refine bel_set ?_ (by simp) _ | refine bel_trans ?_ (by assumption)))⟩
    · go_wp2_with fail
      go_ret
      exact ⟨rfl, hbel⟩

/-- the electrons of the first shell with these numbers, or 0 -/
def elAt (l : List Sh) (n o : Int) : Int := match l.find? (fun s => s.1 == n && s.2.1 == o) with | some s => s.2.2 | none => 0
set_option maxHeartbeats 2000000 in
theorem el_at (v : Value) (l : List Sh) (n o : Int) (w : World) (hv : ShAt w w.heap.size v l) :
    Calls Try.prog 17 #[v, .int .i64 n, .int .i64 o] w fun e w' => e = .returned (.int .i64 (elAt l n o)) ∧ Below w.heap.size w w' := by
  obtain ⟨A, c, rfl, hlc, hcm, hc⟩ := hv
  unfold maxLen at hcm
  go_enter Try.func17, Try.ntmps17
  go_wp2_with fail
  go_loopg [7] l.length (fun gk i wr => ∃ k : Nat, gk = l.length - k ∧ k ≤ l.length ∧ i = .int .i64 k ∧ (l.take k).find? (fun s => s.1 == n && s.2.1 == o) = none ∧ Below w.heap.size w wr)
  case atStart => exact ⟨0, rfl, by omega, rfl, rfl, Below.refl _ _⟩
  case round =>
    obtain ⟨k, rfl, hk, rfl, hfi, hbel⟩ := hrel
    by_cases hlt : k < l.length
    · obtain ⟨b, off, s, rfl, hbl, hbw, hs, c0, c1, c2⟩ := sh_cells hc hbel hlt
      have hlt' : (k : Int) < (l.length : Int) := by omega
      have hf1 : (l.take (k + 1)).find? (fun s => s.1 == n && s.2.1 == o) = if (s.1 == n && s.2.1 == o) = true then some s else none := by
        have hsk : l[k] = s := by rw [hs]; simp [List.getD, List.getElem?_eq_getElem hlt]
        rw [List.take_succ_eq_append_getElem hlt, List.find?_append, hfi, Option.none_or, hsk]
        simp only [List.find?_cons, List.find?_nil]
        split <;> simp_all
      have hf2 : (s.1 == n && s.2.1 == o) = true → elAt l n o = s.2.2 := by
        intro h
        rw [h] at hf1
        unfold elAt
        rw [← List.take_append_drop (k + 1) l, List.find?_append, hf1]
        rfl
      clear hs hfi
      cases h1 : s.1 == n
      · have HF := Lib.hid (show (l.take (k + 1)).find? (fun s => s.1 == n && s.2.1 == o) = none by rw [hf1, h1]; rfl)
        clear hf1 hf2
        go_wp2_with fail
        go_roundg (l.length - (k + 1))
        case measure => omega
        case rel => exact ⟨k + 1, rfl, by omega, by go_num, HF.out, (by repeat (first | exact Below.refl _ _ | assumption | refine bel_drewN ?_ _ | refine bel_drew ?_ | refine bel_alloc ?_ _ | refine bel_set ?_ (by simp; omega) _ | refine bel_set ?_ (by simp) _ | refine bel_trans ?_ (by assumption)))⟩
      · cases h2 : s.2.1 == o
        · have HF := Lib.hid (show (l.take (k + 1)).find? (fun s => s.1 == n && s.2.1 == o) = none by rw [hf1, h1, h2]; rfl)
          clear hf1 hf2
          go_wp2_with fail
          go_roundg (l.length - (k + 1))
          case measure => omega
          case rel => exact ⟨k + 1, rfl, by omega, by go_num, HF.out, (by repeat (first | exact Below.refl _ _ | assumption | refine bel_drewN ?_ _ | refine bel_drew ?_ | refine bel_alloc ?_ _ | refine bel_set ?_ (by simp; omega) _ | refine bel_set ?_ (by simp) _ | refine bel_trans ?_ (by assumption)))⟩
        · have HF := Lib.hid (hf2 (by rw [h1, h2]; rfl))
          clear hf1 hf2
          go_wp2_with fail
          go_ret
          exact ⟨ret_int HF.out.symm, (by repeat (first | exact Below.refl _ _ | assumption | refine bel_drewN ?_ _ | refine bel_drew ?_ | refine bel_alloc ?_ _ | refine bel_set ?_ (by simp; omega) _ | refine bel_set ?_ (by simp) _ | refine bel_trans ?_ (by assumption)))⟩
    · have HK := Lib.hid (show k = l.length by omega)
      have HF := Lib.hid hfi
      clear hfi
      go_wp2_with fail
      go_ret
      exact ⟨ret_int (by have := HF.out; rw [HK.out, List.take_length] at this; rw [elAt, this]), hbel⟩

end Go.Proofs.Ytgemocbpfbdnmaa
