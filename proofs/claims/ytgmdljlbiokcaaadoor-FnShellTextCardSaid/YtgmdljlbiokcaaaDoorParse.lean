/-
  Reading the text of a shell: what the program's and the reference's functions return.
-/
import Derived.Test.YtgmdljlbiokcaaaDoorShelf
import Derived.Test.YtgmdljlbiokcaaaDoorShellText
import Derived.Test.YtgmdljlbiokcaaaDoorIndexR
import Derived.Shelf.Strconv.ErrVar
import Derived.Shelf.Strconv.Atoi
import Derived.Lib.AtoiErrMem
namespace Go.Proofs.YtgmdljlbiokcaaaDoor
open Go.ChangeShapes Go.WideShapes Go.ChangeAt Go.RowKit Go.Deep Go.Joins
set_option linter.unusedVariables false
set_option maxRecDepth 100000

/-- the variable strconv.ErrSyntax holds an error -/
def HErr (w : World) : Prop := ∃ tp p, w.cell? ⟨1, 0, none⟩ = some (.iface tp p)
theorem herr_bel {w w' : World} (h : HErr w) (hb : Below w.heap.size w w') : HErr w' := by
  obtain ⟨tp, p, hc⟩ := h
  exact ⟨tp, p, keep_cell hb hc⟩

theorem atoi_ok (s : ByteArray) (n : Int) (hl : s.size ≤ 18) (h : Lib.atoi s.data.toList = some n) (w : World) :
    Calls Tryd.prog 33 #[.string s] w fun e w' => e = .returned (.tuple #[.int .i64 n, .nilIface]) ∧ Below w.heap.size w w' := by
  refine (Any.strconv_Atoi { Tryd.laysC172 with } s n hl h w).mono ?_
  rintro e w' ⟨rfl, t, rfl⟩
  exact ⟨rfl, Lib.bytesWorld_below _ _ _⟩
theorem atoi_err (s : ByteArray) (hl : s.size ≤ 18) (h : Lib.atoi s.data.toList = none) (w : World) (hE : HErr w) :
    Calls Tryd.prog 33 #[.string s] w fun e w' => ∃ N, e = .returned (.tuple #[.int .i64 0, .iface 83 (.pointer (some ⟨N, 0, none⟩))]) ∧ Below w.heap.size w w' := by
  obtain ⟨tp, p, hc⟩ := hE
  refine (Any.strconv_Atoi_err Tryd.laysC172 s hl h (.iface tp p) w hc (Or.inr ⟨tp, p, rfl⟩)).mono ?_
  rintro e w' ⟨N, rfl, _, _, hb⟩
  exact ⟨N, rfl, hb⟩

/-- a text's runes, laid in new memory -/
theorem run_rn (w : World) (s : ByteArray) (zs : List Nat) (hz : runL s s.size 0 = zs) (hs : s.size ≤ 1000000000) : ∃ (K : Nat) (row : Array Value), zs.length ≤ K ∧
    (convert 9 46 (.string s)).run Tryd.prog w = .ok (.slice (some ⟨w.heap.size, 0, none⟩) zs.length K) (w.drew.alloc (.cells row 21)) ∧
    (∀ (j x : Nat), zs[j]? = some x → row[j]? = some (.int .i32 x)) := by
  have h1 := runes_eq s s.size 0 #[]
  rw [hz] at h1
  have h2 : (Conv.runesFrom s s.size 0 #[]).size = zs.length := by rw [h1]; simp
  have h3 := size_runesFrom s s.size 0 #[]
  have h4 := run_runes_of_string w 9 46 21 s Tryd.underlying9 Tryd.underlying46 Tryd.underlying21 (by simp at h3; omega)
  rw [h2] at h4
  refine ⟨_, _, ?_, h4, ?_⟩
  · exact grownCap_ge _ _ _ _
  · intro j x hx
    rw [h1]
    have hj := (List.getElem?_eq_some_iff.1 hx).1
    have hj2 : j < zs.length := by simpa using hj
    rw [Array.getElem?_append_left (by simpa using hj2)]
    simp [hx]
theorem rune_le (s : ByteArray) : ∀ (b i : Nat), ∀ x ∈ runL s b i, x ≤ 2147483647
  | 0, i, x, hx => by simp [runL] at hx
  | b + 1, i, x, hx => by
    unfold runL at hx
    split at hx
    · rcases List.mem_cons.1 hx with rfl | hx
      · exact decode_le s i
      · exact rune_le s b _ x hx
    · simp at hx

/-- what is returned -/
abbrev frV (r : Bool × Sh) : Value := .tuple #[.agg #[.int .i64 r.2.1, .int .i64 r.2.2.1, .int .i64 r.2.2.2], .bool r.1]

theorem bel_three {w w9 : World} (h : Below w.heap.size w w9) (u v x : Value) : Below w.heap.size w (((w9.setCell ⟨w.heap.size, 0, none⟩ u).setCell ⟨w.heap.size, 1, none⟩ v).setCell ⟨w.heap.size, 2, none⟩ x) :=
  bel_set (bel_set (bel_set h (p := ⟨w.heap.size, 0, none⟩) (by simp) u) (p := ⟨w.heap.size, 1, none⟩) (by simp) v) (p := ⟨w.heap.size, 2, none⟩) (by simp) x
set_option maxHeartbeats 4000000 in
theorem impl_sf_no (s : ByteArray) (hs : s.size ≤ 1000000000) (w : World) (hl : (runL s s.size 0).length < 3 ∨ 4 < (runL s s.size 0).length) :
    Calls Tryd.prog 12 #[.string s] w fun e w' => e = .returned (frV (false, 0, 0, 0)) ∧ Below w.heap.size w w' := by
  obtain ⟨zs, hz⟩ : ∃ zs, runL s s.size 0 = zs := ⟨_, rfl⟩
  obtain ⟨K, row, hK, hcv, hrow⟩ := run_rn (w.alloc (.cells #[.int .i64 0, .int .i64 0, .int .i64 0] 24)) s zs hz hs
  rw [hz] at hl
  simp only [World.size_alloc] at hcv
  obtain ⟨m, hm⟩ : ∃ m, zs.length = m := ⟨_, rfl⟩
  rw [hm] at hl hcv
  clear hrow hz
  have O1 := Own.new w 24 #[.int .i64 0, .int .i64 0, .int .i64 0]
  rcases hl with hl | hl
  · have h3 : decide ((m : Int) < 3) = true := by simp; omega
    go_enter Tryd.func12, Tryd.ntmps12
    go_wp2_with fail
    have O2 := (O1.alloc (.cells row 21)).drew
    have q2 := O2.cell
    exact bodyPost_ret (v := frV (false, 0, 0, 0)) (by simp [results, Tryd.results12, go_sem, q2]) rfl ⟨rfl, (by repeat (first | exact Below.refl _ _ | assumption | refine bel_drewN ?_ _ | refine bel_drew ?_ | refine bel_alloc ?_ _ | refine bel_set ?_ (by simp; omega) _ | refine bel_set ?_ (by simp) _ | refine bel_trans ?_ (by assumption)))⟩
  · have h3 : decide ((m : Int) < 3) = false := by simp; omega
    have h4 : decide (4 < (m : Int)) = true := by simp; omega
    go_enter Tryd.func12, Tryd.ntmps12
    go_wp2_with fail
    have O2 := (O1.alloc (.cells row 21)).drew
    have q2 := O2.cell
    exact bodyPost_ret (v := frV (false, 0, 0, 0)) (by simp [results, Tryd.results12, go_sem, q2]) rfl ⟨rfl, (by repeat (first | exact Below.refl _ _ | assumption | refine bel_drewN ?_ _ | refine bel_drew ?_ | refine bel_alloc ?_ _ | refine bel_set ?_ (by simp; omega) _ | refine bel_set ?_ (by simp) _ | refine bel_trans ?_ (by assumption)))⟩

theorem run_back (W : World) (g K : Nat) (zs : List Nat) (hc : ∀ (j x : Nat), zs[j]? = some x → W.cell? ⟨g, 2 + j, none⟩ = some (.int .i32 (x : Int))) :
    (convert 46 9 (.slice (some ⟨g, 2, none⟩) zs.length K)).run Tryd.prog W = .ok (.string (runesBytes (zs.map fun r : Nat => (r : Int)))) W := by
  have h := run_convert_runes W 46 9 21 ⟨g, 2, none⟩ zs.length K (zs.map fun r : Nat => (r : Int)) (by simp) Tryd.underlying46 Tryd.underlying21 Tryd.underlying9 (by
    intro j hj
    have hj2 : j < zs.length := by simpa using hj
    have e : (zs.map fun r : Nat => (r : Int)).getD j 0 = (zs[j] : Int) := by simp [List.getD, List.getElem?_eq_getElem hj2]
    rw [e]
    have := hc j zs[j] (List.getElem?_eq_getElem hj2)
    by_cases h0 : j = 0
    · subst h0; simpa [Addr.add] using this
    · simpa [Addr.add, h0] using this)
  rwa [List.take_of_length_le (by simp)] at h

theorem str_ne {a b : ByteArray} (h : a ≠ b) : (a.toList == b.toList) = false := by
  rw [ByteArray.toList_eq, ByteArray.toList_eq, beq_eq_false_iff_ne]
  exact fun e => h (ba_ext e)
theorem keep_three {w : World} {p : Addr} {b : Nat} {v x y z : Value} (h : w.cell? p = some v) (hne : p.block ≠ b) : (((w.setCell ⟨b, 0, none⟩ x).setCell ⟨b, 1, none⟩ y).setCell ⟨b, 2, none⟩ z).cell? p = some v := by
  have hn : ∀ o, (⟨b, o, none⟩ : Addr) ≠ p := fun o e => hne (by rw [← e])
  rw [World.cell?_setCell_other _ _ _ _ (hn 2), World.cell?_setCell_other _ _ _ _ (hn 1), World.cell?_setCell_other _ _ _ _ (hn 0)]
  exact h
set_option maxHeartbeats 4000000 in
theorem impl_sf_at (s : ByteArray) (hs : s.size ≤ 1000000000) (a b m : Nat) (t : List Nat) (ht : t.length = m) (hm : m = 1 ∨ m = 2) (w : World) (hE : HErr w) (hz : runL s s.size 0 = a :: b :: t) :
    Calls Tryd.prog 12 #[.string s] w fun e w' => e = .returned (frV (frS s)) ∧ Below w.heap.size w w' := by
  have hpos : 0 < s.size := by
    rcases Nat.eq_zero_or_pos s.size with h | h
    · rw [h] at hz; simp [runL] at hz
    · exact h
  have hra : a ≤ 2147483647 := rune_le s s.size 0 a (by rw [hz]; simp)
  have hrb : b ≤ 2147483647 := rune_le s s.size 0 b (by rw [hz]; simp)
  have zT : (runesBytes (t.map fun r : Nat => (r : Int))).size ≤ 8 := by
    have := runesBytes_size_le (t.map fun r : Nat => (r : Int))
    rw [List.length_map] at this
    omega
  have HP : RowKit.Hid (∀ n l c, shB n l c = true → shText n l c = s → (a : Int) - 48 = n ∧ irV b = l ∧ Lib.atoi (runesBytes (t.map fun r : Nat => (r : Int))).data.toList = some c) := Lib.hid (by
    intro n l c h hh
    obtain ⟨N, e, _, _, _, _, _, h0, h1, h2, h3⟩ := parse_of h hh
    rw [hz] at h0 h1 h2 h3
    simp only [List.getD_cons_zero, List.getD_cons_succ, List.map_cons, List.drop_succ_cons, List.drop_zero] at h0 h1 h2 h3
    exact ⟨by omega, by rw [irV, if_pos h1]; exact h2, h3⟩)
  obtain ⟨K, row, hK, hcv, hrow⟩ := run_rn (w.alloc (.cells #[.int .i64 0, .int .i64 0, .int .i64 0] 24)) s _ hz hs
  simp only [World.size_alloc, List.length_cons, ht] at hcv hK
  have O1 := ((Own.new w 24 #[.int .i64 0, .int .i64 0, .int .i64 0]).alloc (.cells row 21)).drew
  have R1 := (Own.new (w.alloc (.cells #[.int .i64 0, .int .i64 0, .int .i64 0] 24)) 21 row).drew
  simp only [World.size_alloc] at R1
  have hcv2 := run_back _ (w.heap.size + 1) (K - 2) t (fun j x hx => by rw [R1.cell]; exact hrow (2 + j) x (by rw [Nat.add_comm]; simpa using hx))
  rw [ht] at hcv2
  have r0 : row[0]? = some (.int .i32 a) := hrow 0 a rfl
  have r1 : row[1]? = some (.int .i32 b) := hrow 1 b rfl
  have L1 : Below w.heap.size w ((w.alloc (.cells #[.int .i64 0, .int .i64 0, .int .i64 0] 24)).alloc (.cells row 21)).drew := (by repeat (first | exact Below.refl _ _ | assumption | refine bel_drewN ?_ _ | refine bel_drew ?_ | refine bel_alloc ?_ _ | refine bel_set ?_ (by simp; omega) _ | refine bel_set ?_ (by simp) _ | refine bel_trans ?_ (by assumption)))
  clear hrow
  have h3 : decide (((m + 2 : Nat) : Int) < 3) = false := by simp; omega
  have h4 : decide (4 < ((m + 2 : Nat) : Int)) = false := by simp; omega
  generalize runesBytes (t.map fun r : Nat => (r : Int)) = T at *
  have hw32 : IntKind.i32.wrap ((a : Int) - 48) = a - 48 := by simp [IntKind.wrap, IntKind.bits, IntKind.signed]; omega
  have hw64 : IntKind.i64.wrap ((a : Int) - 48) = a - 48 := IntWalk.i64_in _ (by omega)
  cases hat : Lib.atoi T.data.toList with
  | none =>
    have HF := Lib.hid (fr_no (s := s) fun n l c h hh => by
      have := (HP.out n l c h hh).2.2
      rw [hat] at this
      exact absurd this (by simp))
    rw [HF.out]
    have HA := Lib.hid (fun w hE => atoi_err T (by omega) hat w hE)
    clear hw32 hw64 hz hat
    go_enter Tryd.func12, Tryd.ntmps12
    go_wp2_with fail
    refine (HA.out _ (herr_bel hE L1)).mono ?_
    rintro e w2 ⟨N, rfl, hb2⟩
    have O2 := O1.below hb2
    have q2 := O2.cell
    have l2 := O2.lt
    have f2 := O2.frozen
    have L2 := bel_trans L1 hb2
    go_wp2_with fail
    have F := ((O2.set_ 0 (.int .i64 0)).set_ 1 (.int .i64 0)).set_ 2 (.int .i64 0)
    have qF := F.cell
    exact bodyPost_ret (v := frV (false, 0, 0, 0)) (by simp [results, Tryd.results12, go_sem, qF]) rfl ⟨rfl, bel_three L2 _ _ _⟩
  | some v =>
    have HF := Lib.hid (fr_test hpos ((a : Int) - 48) (irV b) v fun x y z h hh => by
      obtain ⟨h0, h1, h2⟩ := HP.out x y z h hh
      rw [hat] at h2
      exact ⟨h0, h1, Option.some.inj h2⟩)
    have HA := Lib.hid (fun w => atoi_ok T v (by omega) hat w)
    have HR := Lib.hid (fun w => impl_ir b hrb w)
    have HST := Lib.hid (fun w => impl_st ((a : Int) - 48) (irV b) v w)
    clear hz hat
    generalize irV b = L at *
    go_enter Tryd.func12, Tryd.ntmps12
    go_wp2_with fail
    refine (HA.out _).mono ?_
    rintro e w2 ⟨rfl, hb2⟩
    have O2 := O1.below hb2
    have R2 := R1.below hb2
    have c0 : w2.cell? ⟨w.heap.size + 1, 0, none⟩ = some (.int .i32 a) := (R2.cell 0).trans r0
    have c1 : w2.cell? ⟨w.heap.size + 1, 1, none⟩ = some (.int .i32 b) := (R2.cell 1).trans r1
    have l2 := R2.lt
    have L2 := bel_trans L1 hb2
    clear hb2 O1 R1 L1
    go_wp2_with fail
    clear HA hE hcv hcv2 HP hpos r0 r1 hK
    have hi0 : (0 : Int) < (m : Int) + 1 + 1 := by omega
    have hi1 : (1 : Int) < (m : Int) + 1 + 1 := by omega
    go_region_held3 (fun w' => w'.cell? ⟨w.heap.size + 1, 0, none⟩ = some (.int .i32 a) ∧ w'.cell? ⟨w.heap.size + 1, 1, none⟩ = some (.int .i32 b) ∧ Below w2.heap.size w2 w')
      (first
        | exact ⟨c0, c1, (Below.refl _ _).drew⟩
        | assumption
        | (refine ⟨?_, ?_, ?_⟩
           all_goals (repeat (with_reducible first
             | assumption
             | exact Below.refl _ _
             | refine bel_set ?_ (by simp) _
             | refine bel_alloc ?_ _
             | refine bel_trans ?_ hb9
             | refine bel_drew ?_
             | refine keep_cell hb9 ?_
             | refine keep_cell ((Below.refl _ _).alloc (Nat.le_refl _) _) ?_
             | refine keep_cell (Below.refl _ _).drew ?_
             | (refine keep_three ?_ ?_; rotate_left; (simp only; omega))))
           done))
      (first
        | (go_at_call 34; refine (HR.out _).mono ?_; rintro e w9 ⟨rfl, hb9⟩; first
            | (have B9 := Own.below (w := (w2.alloc (.cells #[.int .i64 0, .int .i64 0, .int .i64 0] 24)).drew) (Own.drew (Own.new w2 24 #[.int .i64 0, .int .i64 0, .int .i64 0])) hb9; have b9 := B9.cell; have k9 := B9.lt; have f9 := B9.frozen)
            | skip))
    all_goals
      first
        | (have L9 : Below w2.heap.size w2 w9 := bel_trans (a := w2.drew) (bel_drew (Below.refl _ _)) hb9
           have BX := Own.new w9 24 #[.int .i64 ((a : Int) - 48), .int .i64 L, .int .i64 v]
           have OX := (O2.below L9).alloc (.cells #[.int .i64 ((a : Int) - 48), .int .i64 L, .int .i64 v] 24)
           have LW := bel_alloc (bel_trans L2 L9) (.cells #[.int .i64 ((a : Int) - 48), .int .i64 L, .int .i64 v] 24)
           have hne : w.heap.size ≠ w9.heap.size := by have := L9.size; have := O2.lt; omega
           generalize w9.alloc (.cells #[.int .i64 ((a : Int) - 48), .int .i64 L, .int .i64 v] 24) = X at *
           generalize w9.heap.size = bx at *)
        | (have L9 : Below w2.heap.size w2 w9 := bel_trans (a := (w2.alloc (.cells #[.int .i64 0, .int .i64 0, .int .i64 0] 24)).drew) (bel_drew (bel_alloc (Below.refl _ _) _)) hb9
           have hne : w.heap.size ≠ w2.heap.size := by have := O2.lt; omega
           have BX : Own (((w9.setCell ⟨w2.heap.size, 0, none⟩ (.int .i64 ((a : Int) - 48))).setCell ⟨w2.heap.size, 1, none⟩ (.int .i64 L)).setCell ⟨w2.heap.size, 2, none⟩ (.int .i64 v)) w2.heap.size 24 #[.int .i64 ((a : Int) - 48), .int .i64 L, .int .i64 v] := ((B9.set_ 0 (.int .i64 ((a : Int) - 48))).set_ 1 (.int .i64 L)).set_ 2 (.int .i64 v)
           have OX := (((O2.below L9).far (p := ⟨w2.heap.size, 0, none⟩) hne (.int .i64 ((a : Int) - 48))).far (p := ⟨w2.heap.size, 1, none⟩) hne (.int .i64 L)).far (p := ⟨w2.heap.size, 2, none⟩) hne (.int .i64 v)
           have LW := bel_trans L2 (bel_three L9 (.int .i64 ((a : Int) - 48)) (.int .i64 L) (.int .i64 v))
           generalize ((w9.setCell ⟨w2.heap.size, 0, none⟩ (.int .i64 ((a : Int) - 48))).setCell ⟨w2.heap.size, 1, none⟩ (.int .i64 L)).setCell ⟨w2.heap.size, 2, none⟩ (.int .i64 v) = X at *
           clear L9 B9 b9 k9 f9 hb9
           generalize w2.heap.size = bx at *)
      have q := BX.cell
      have ql := BX.lt
      go_wp2_with fail
      refine (HST.out _).mono ?_
      rintro e w10 ⟨rfl, hb10⟩
      have BX2 := BX.below hb10
      have OX2 := OX.below hb10
      have LW2 := bel_trans LW hb10
      clear q ql BX OX LW hb10
      have q := BX2.cell
      have ql := BX2.lt
      have q2 := OX2.cell
      have ql2 := OX2.lt
      have qf2 := OX2.frozen
      by_cases hq : shText ((a : Int) - 48) L v = s
      · have HF2 := HF.out
        rw [if_pos hq] at HF2
        have HF3 := Lib.hid HF2
        rw [hq]
        clear HF HF2 hq
        go_wp2_with fail
        have F := ((OX2.set_ 0 (.int .i64 ((a : Int) - 48))).set_ 1 (.int .i64 L)).set_ 2 (.int .i64 v)
        have qF := F.cell
        exact bodyPost_ret (v := frV (true, (a : Int) - 48, L, v)) (by simp [results, Tryd.results12, go_sem, qF]) rfl ⟨by rw [HF3.out], bel_three LW2 _ _ _⟩
      · have HF2 := HF.out
        rw [if_neg hq] at HF2
        have HF3 := Lib.hid HF2
        have hns := str_ne hq
        clear HF HF2 hq
        go_wp2_with fail
        have F := ((OX2.set_ 0 (.int .i64 0)).set_ 1 (.int .i64 0)).set_ 2 (.int .i64 0)
        have qF := F.cell
        exact bodyPost_ret (v := frV (false, 0, 0, 0)) (by simp [results, Tryd.results12, go_sem, qF]) rfl ⟨by rw [HF3.out], bel_three LW2 _ _ _⟩

end Go.Proofs.YtgmdljlbiokcaaaDoor
