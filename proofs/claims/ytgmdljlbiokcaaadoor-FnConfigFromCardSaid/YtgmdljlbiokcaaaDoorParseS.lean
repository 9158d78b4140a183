/-
  Reading the text of a shell: what the program's and the reference's functions return, for each text.
-/
import Derived.Test.YtgmdljlbiokcaaaDoorParse
import Derived.Test.YtgmdljlbiokcaaaDoorParseL
namespace Go.Proofs.YtgmdljlbiokcaaaDoor
open Go.ChangeShapes Go.WideShapes Go.ChangeAt Go.RowKit Go.Deep Go.Joins
set_option linter.unusedVariables false
set_option maxRecDepth 100000

theorem impl_sf (s : ByteArray) (hs : s.size ≤ 1000000000) (w : World) (hE : HErr w) :
    Calls Tryd.prog 12 #[.string s] w fun e w' => e = .returned (frV (frS s)) ∧ Below w.heap.size w w' := by
  by_cases h : 3 ≤ (runL s s.size 0).length ∧ (runL s s.size 0).length ≤ 4
  · match hz : runL s s.size 0 with
    | [] => rw [hz] at h; simp at h
    | [_] => rw [hz] at h; simp at h
    | [_, _] => rw [hz] at h; simp at h
    | a :: b :: c :: t =>
      refine impl_sf_at s hs a b (c :: t).length (c :: t) rfl ?_ w hE hz
      have hl := h
      rw [hz] at hl
      simp only [List.length_cons] at hl ⊢
      omega
  · have hF : frS s = (false, 0, 0, 0) := fr_no fun n l c hb hh => by
      obtain ⟨N, _, _, _, h1, h2, _⟩ := parse_of hb hh
      exact h ⟨h1, h2⟩
    rw [hF]
    exact impl_sf_no s hs w (by omega)

theorem frS_at {s : ByteArray} (h : 3 ≤ s.size ∧ s.size ≤ 4) {n l c : Int} (hf : frL s.data.toList = (n, l, c)) : frS s = if shText n l c = s then (true, n, l, c) else (false, 0, 0, 0) := by
  unfold frS
  rw [if_pos h, hf]

set_option maxHeartbeats 4000000 in
theorem spec_sf_no (s : ByteArray) (hs : s.size ≤ 1000000000) (hl : s.size < 3 ∨ 4 < s.size) (w : World) :
    Calls Tryd.prog 13 #[.string s] w fun e w' => e = .returned (frV (false, 0, 0, 0)) ∧ Below w.heap.size w w' := by
  have O1 := Own.new w 24 #[.int .i64 0, .int .i64 0, .int .i64 0]
  have q2 := O1.cell
  rcases hl with hl | hl
  · have h3 : decide ((s.size : Int) < 3) = true := by simp; omega
    clear hl
    go_enter Tryd.func13, Tryd.ntmps13
    go_wp2_with fail
    exact bodyPost_ret (v := frV (false, 0, 0, 0)) (by simp [results, Tryd.results13, go_sem, q2]) rfl ⟨rfl, (by repeat (first | exact Below.refl _ _ | assumption | refine bel_drewN ?_ _ | refine bel_drew ?_ | refine bel_alloc ?_ _ | refine bel_set ?_ (by simp; omega) _ | refine bel_set ?_ (by simp) _ | refine bel_trans ?_ (by assumption)))⟩
  · have h3 : decide ((s.size : Int) < 3) = false := by simp; omega
    have h4 : decide (4 < (s.size : Int)) = true := by simp; omega
    clear hl
    go_enter Tryd.func13, Tryd.ntmps13
    go_wp2_with fail
    exact bodyPost_ret (v := frV (false, 0, 0, 0)) (by simp [results, Tryd.results13, go_sem, q2]) rfl ⟨rfl, (by repeat (first | exact Below.refl _ _ | assumption | refine bel_drewN ?_ _ | refine bel_drew ?_ | refine bel_alloc ?_ _ | refine bel_set ?_ (by simp; omega) _ | refine bel_set ?_ (by simp) _ | refine bel_trans ?_ (by assumption)))⟩

set_option maxHeartbeats 4000000 in
theorem spec_sf_at (s : ByteArray) (hs : 3 ≤ s.size ∧ s.size ≤ 4) (x y : UInt8) (t : ByteArray) (v : Int) (h0 : ∀ h, (s[0]'h) = x) (h1 : ∀ h, (s[1]'h) = y) (ht : s.extract 2 s.size = t)
    (HD : RowKit.Hid (∀ w, Calls Tryd.prog 36 #[.string t] w fun e w' => e = .returned (.int .i64 v) ∧ w = w')) (HF : RowKit.Hid (frS s = if shText ((x.toNat : Int) - 48) (letV y) v = s then (true, (x.toNat : Int) - 48, letV y, v) else (false, 0, 0, 0))) (w : World) :
    Calls Tryd.prog 13 #[.string s] w fun e w' => e = .returned (frV (frS s)) ∧ Below w.heap.size w w' := by
  have HR := Lib.hid (fun w => spec_let y w)
  have HST := Lib.hid (fun w => spec_st ((x.toNat : Int) - 48) (letV y) v w)
  have O1 := Own.new w 24 #[.int .i64 0, .int .i64 0, .int .i64 0]
  have hxb : (x.toNat : Int) < 256 := by have := x.toNat_lt; omega
  have h3 : decide ((s.size : Int) < 3) = false := by simp; omega
  have h4 : decide (4 < (s.size : Int)) = false := by simp; omega
  have g0 : (0 : Int) < s.size := by omega
  have g1 : (1 : Int) < s.size := by omega
  have g2 : (2 : Int) ≤ s.size := by omega
  have w0 : IntKind.i64.wrap (x.toNat : Int) = x.toNat := IntWalk.i64_in _ (by omega)
  have w1 : IntKind.i64.wrap ((x.toNat : Int) - 48) = x.toNat - 48 := IntWalk.i64_in _ (by omega)
  have L1 : Below w.heap.size w (w.alloc (.cells #[.int .i64 0, .int .i64 0, .int .i64 0] 24)) := (by repeat (first | exact Below.refl _ _ | assumption | refine bel_drewN ?_ _ | refine bel_drew ?_ | refine bel_alloc ?_ _ | refine bel_set ?_ (by simp; omega) _ | refine bel_set ?_ (by simp) _ | refine bel_trans ?_ (by assumption)))
  generalize letV y = L at *
  clear hxb hs
  go_enter Tryd.func13, Tryd.ntmps13
  go_wp2_with fail
  generalize w.alloc (.cells #[.int .i64 0, .int .i64 0, .int .i64 0] 24) = W at *
  go_region_held3 (fun w' => Below W.heap.size W w')
    (first
      | exact (Below.refl _ _).drew
      | assumption
      | (repeat (with_reducible first
             | assumption
             | exact Below.refl _ _
             | refine bel_set ?_ (by simp) _
             | refine bel_alloc ?_ _
             | refine bel_drew ?_)))
    (first
      | (go_at_call 35; refine (HR.out _).mono ?_; rintro e w9 ⟨rfl, rfl⟩)
      | (go_at_call 36; refine (HD.out _).mono ?_; rintro e w9 ⟨rfl, rfl⟩))
  all_goals
    have BX := (Own.new W 24 #[.int .i64 ((x.toNat : Int) - 48), .int .i64 L, .int .i64 v]).drew
    have OX := (O1.alloc (.cells #[.int .i64 ((x.toNat : Int) - 48), .int .i64 L, .int .i64 v] 24)).drew
    have LW := bel_drew (bel_alloc L1 (.cells #[.int .i64 ((x.toNat : Int) - 48), .int .i64 L, .int .i64 v] 24))
    have hne : w.heap.size ≠ W.heap.size := by have := O1.lt; omega
    clear O1 L1
    generalize (W.alloc (.cells #[.int .i64 ((x.toNat : Int) - 48), .int .i64 L, .int .i64 v] 24)).drew = X at *
    generalize W.heap.size = bx at *
    have q := BX.cell
    have ql := BX.lt
    go_wp2_with fail
    refine (HST.out _).mono ?_
    rintro e w10 ⟨rfl, hb10⟩
    have BX2 := BX.below hb10
    have OX2 := OX.below hb10
    have LW2 := bel_trans LW hb10
    clear q ql BX OX LW hb10
    have q := BX2.cell
    have ql := BX2.lt
    have q2 := OX2.cell
    have ql2 := OX2.lt
    have qf2 := OX2.frozen
    by_cases hq : shText ((x.toNat : Int) - 48) L v = s
    · have HF2 := HF.out
      rw [if_pos hq] at HF2
      have HF3 := Lib.hid HF2
      rw [hq]
      clear HF HF2 hq
      go_wp2_with fail
      have F := ((OX2.set_ 0 (.int .i64 ((x.toNat : Int) - 48))).set_ 1 (.int .i64 L)).set_ 2 (.int .i64 v)
      have qF := F.cell
      exact bodyPost_ret (v := frV (true, (x.toNat : Int) - 48, L, v)) (by simp [results, Tryd.results13, go_sem, qF]) rfl ⟨by rw [HF3.out], bel_three LW2 _ _ _⟩
    · have HF2 := HF.out
      rw [if_neg hq] at HF2
      have HF3 := Lib.hid HF2
      have hns := str_ne hq
      clear HF HF2 hq
      go_wp2_with fail
      have F := ((OX2.set_ 0 (.int .i64 0)).set_ 1 (.int .i64 0)).set_ 2 (.int .i64 0)
      have qF := F.cell
      exact bodyPost_ret (v := frV (false, 0, 0, 0)) (by simp [results, Tryd.results13, go_sem, qF]) rfl ⟨by rw [HF3.out], bel_three LW2 _ _ _⟩

theorem spec_sf (s : ByteArray) (hs : s.size ≤ 1000000000) (w : World) :
    Calls Tryd.prog 13 #[.string s] w fun e w' => e = .returned (frV (frS s)) ∧ Below w.heap.size w w' := by
  by_cases h : 3 ≤ s.size ∧ s.size ≤ 4
  · obtain ⟨⟨l⟩⟩ := s
    have hl : (⟨⟨l⟩⟩ : ByteArray).size = l.length := rfl
    rw [hl] at h
    match l with
    | [] => simp at h
    | [_] => simp at h
    | [_, _] => simp at h
    | [x, y, a] =>
      have hf := frS_at (s := ⟨#[x, y, a]⟩) (by decide : 3 ≤ 3 ∧ 3 ≤ 4) (n := (x.toNat : Int) - 48) (l := letV y) (c := digI [a]) rfl
      exact spec_sf_at ⟨#[x, y, a]⟩ (by decide : 3 ≤ 3 ∧ 3 ≤ 4) x y ⟨#[a]⟩ (digI [a]) (fun _ => rfl) (fun _ => rfl) (ba_ext (by simp [ByteArray.data_extract]; rfl)) (Lib.hid (fun w => spec_dig1 a w)) (Lib.hid hf) w
    | [x, y, a, b] =>
      have hf := frS_at (s := ⟨#[x, y, a, b]⟩) (by decide : 3 ≤ 4 ∧ 4 ≤ 4) (n := (x.toNat : Int) - 48) (l := letV y) (c := digI [a, b]) rfl
      exact spec_sf_at ⟨#[x, y, a, b]⟩ (by decide : 3 ≤ 4 ∧ 4 ≤ 4) x y ⟨#[a, b]⟩ (digI [a, b]) (fun _ => rfl) (fun _ => rfl) (ba_ext (by simp [ByteArray.data_extract]; rfl)) (Lib.hid (fun w => spec_dig2 a b w)) (Lib.hid hf) w
    | _ :: _ :: _ :: _ :: _ :: _ => simp at h
  · have hF : frS s = (false, 0, 0, 0) := by unfold frS; rw [if_neg h]
    rw [hF]
    exact spec_sf_no s hs (by omega) w

end Go.Proofs.YtgmdljlbiokcaaaDoor
