/-
  Slices of shells and of terms: what the walks are told of them; the order of filling.
-/
import Derived.Test.YtgemocbpfbdnmaaScalar
namespace Go.Proofs.Ytgemocbpfbdnmaa
open Go.ChangeShapes Go.WideShapes Go.ChangeAt Go.RowKit Go.Deep Go.Joins
set_option linter.unusedVariables false

abbrev Sh := Int × Int × Int
def shCells (s : Sh) : List Value := [.int .i64 s.1, .int .i64 s.2.1, .int .i64 s.2.2]
def flat (l : List Sh) : List Value := l.flatMap shCells
theorem flat_nil : flat [] = [] := rfl
theorem flat_append (l r : List Sh) : flat (l ++ r) = flat l ++ flat r := by simp [flat]
theorem flat_one (s : Sh) : flat [s] = shCells s := by simp [flat]
theorem flat_length (l : List Sh) : (flat l).length = l.length * 3 := by
  induction l with
  | nil => rfl
  | cons s l ih => simp only [flat, List.flatMap_cons, List.length_append, List.length_cons] at ih ⊢; rw [ih]; simp [shCells]; omega
theorem flat_get (l : List Sh) : ∀ (i : Nat) (s : Sh), l[i]? = some s → (flat l)[i * 3]? = some (.int .i64 s.1) ∧ (flat l)[i * 3 + 1]? = some (.int .i64 s.2.1) ∧ (flat l)[i * 3 + 2]? = some (.int .i64 s.2.2) := by
  induction l with
  | nil => intro i s h; simp at h
  | cons x l ih =>
    intro i s h
    have e : flat (x :: l) = .int .i64 x.1 :: .int .i64 x.2.1 :: .int .i64 x.2.2 :: flat l := rfl
    rw [e]
    match i, h with
    | 0, h => simp at h; subst h; simp
    | i + 1, h =>
      have := ih i s (by simpa using h)
      rw [show (i + 1) * 3 = i * 3 + 1 + 1 + 1 by omega]
      simpa using this

/-- A slice value that reads as a list of shells; it lies below block B. -/
def ShAt (w : World) (B : Nat) (v : Value) (l : List Sh) : Prop :=
  ∃ A c, v = .slice A l.length c ∧ l.length ≤ c ∧ c ≤ maxLen ∧ (0 < l.length → ∃ b off, A = some ⟨b, off, none⟩ ∧ b < B ∧ ∀ i s, l[i]? = some s →
    w.cell? ⟨b, off + i * 3, none⟩ = some (.int .i64 s.1) ∧ w.cell? ⟨b, off + i * 3 + 1, none⟩ = some (.int .i64 s.2.1) ∧ w.cell? ⟨b, off + i * 3 + 2, none⟩ = some (.int .i64 s.2.2))

theorem ShAt.below {w w' : World} {B : Nat} {v : Value} {l : List Sh} (h : ShAt w B v l) (hb : Below B w w') : ShAt w' B v l := by
  obtain ⟨A, c, hv, h1, h2, h3⟩ := h
  refine ⟨A, c, hv, h1, h2, fun hl => ?_⟩
  obtain ⟨b, off, ha, hlt, hc⟩ := h3 hl
  refine ⟨b, off, ha, hlt, fun i s hs => ?_⟩
  obtain ⟨c0, c1, c2⟩ := hc i s hs
  exact ⟨(hb.cell (p := ⟨b, off + i * 3, none⟩) hlt).trans c0, (hb.cell (p := ⟨b, off + i * 3 + 1, none⟩) hlt).trans c1, (hb.cell (p := ⟨b, off + i * 3 + 2, none⟩) hlt).trans c2⟩
theorem ShAt.more {w : World} {B B' : Nat} {v : Value} {l : List Sh} (h : ShAt w B v l) (hB : B ≤ B') : ShAt w B' v l := by
  obtain ⟨A, c, hv, h1, h2, h3⟩ := h
  refine ⟨A, c, hv, h1, h2, fun hl => ?_⟩
  obtain ⟨b, off, ha, hlt, hc⟩ := h3 hl
  exact ⟨b, off, ha, by omega, hc⟩
theorem ShAt.bel {w w' : World} {v : Value} {l : List Sh} (h : ShAt w w.heap.size v l) (hb : Below w.heap.size w w') : ShAt w' w'.heap.size v l := (h.below hb).more hb.size

theorem ShAt.of_own {w : World} {base : Nat} {v : Value} {l : List Sh} (h : w.ownsRow base 29 3 v l.length (flat l)) : ShAt w w.heap.size v l := by
  rcases h.2 with ⟨rfl, hn⟩ | ⟨g, cap, cur, hv, hb, hg, hnc, hcm, hsz, htk⟩
  · refine ⟨none, 0, ?_, by omega, by simp [maxLen], fun h => by omega⟩
    rw [hn]
  · refine ⟨_, cap, hv, hnc, hcm, fun hl => ⟨g, 0, rfl, (Array.getElem?_eq_some_iff.1 hg).1, fun i s hs => ?_⟩⟩
    subst hv
    have hi : i < l.length := (List.getElem?_eq_some_iff.1 hs).1
    obtain ⟨e0, e1, e2⟩ := flat_get l i s hs
    have c0 := h.cellAt (i * 3) (by omega)
    have c1 := h.cellAt (i * 3 + 1) (by omega)
    have c2 := h.cellAt (i * 3 + 2) (by omega)
    simp only [Nat.zero_add]
    exact ⟨c0.trans e0, c1.trans e1, c2.trans e2⟩

/-- the order of filling, as the reference has it -/
def orderCode : List Int := [10, 20, 21, 30, 31, 40, 32, 41, 50, 42, 51, 60, 43, 52, 61, 70, 53, 62, 71]
def shOf (x : Int) : Sh := (x / 10, x % 10, cap (x % 10))
def order : List Sh := orderCode.map shOf
theorem order_length : order.length = 19 := rfl

theorem infoShell : (Try.prog.info? 29).map (fun i => (i.zero, i.size, i.bytes)) = some (some (.agg #[.int .i64 0, .int .i64 0, .int .i64 0]), 3, 24) := by kernel_rfl

/-- the shells that are filled for one sum, up to a principal number -/
def rowUp (s n : Nat) : List Sh := (List.range n).flatMap fun (k : Nat) => if (s : Int) - k < k ∧ (s : Int) - k ≤ 3 ∧ 1 ≤ k then [((k : Int), (s : Int) - k, cap ((s : Int) - k))] else []
/-- the shells that are filled for the smaller sums -/
def sumUp (s : Nat) : List Sh := (List.range s).flatMap fun t => rowUp t (min t 7 + 1)
theorem sumUp_end : sumUp 9 = order := by decide +kernel
theorem sumUp_one : sumUp 1 = [] := by decide +kernel
theorem rowUp_succ (s n : Nat) : rowUp s (n + 1) = rowUp s n ++ if (s : Int) - n < n ∧ (s : Int) - n ≤ 3 ∧ 1 ≤ n then [((n : Int), (s : Int) - n, cap ((s : Int) - n))] else [] := by
  simp [rowUp, List.range_succ]
theorem sumUp_succ (s : Nat) : sumUp (s + 1) = sumUp s ++ rowUp s (min s 7 + 1) := by
  simp [sumUp, List.range_succ]
theorem rowUp_le (s n : Nat) : (rowUp s n).length ≤ n := by
  induction n with
  | zero => simp [rowUp]
  | succ n ih =>
    rw [rowUp_succ, List.length_append]
    split <;> simp <;> omega
theorem sumUp_le (s : Nat) : (sumUp s).length ≤ 8 * s := by
  induction s with
  | zero => simp [sumUp]
  | succ s ih =>
    have := rowUp_le s (min s 7 + 1)
    rw [sumUp_succ, List.length_append]
    omega
theorem rowUp_one (s : Nat) : rowUp s 1 = [] := by
  rw [rowUp_succ, if_neg (by omega)]; rfl

/-- what a call that makes a list of shells leaves -/
def ShellsEnd (l : List Sh) (w : World) (e : Ending) (w' : World) : Prop := ∃ v, e = .returned v ∧ w'.ownsRow w.heap.size 29 3 v l.length (flat l) ∧ Below w.heap.size w w'

set_option maxHeartbeats 1000000 in
theorem impl_filling (w : World) : Calls Try.prog 33 #[] w (ShellsEnd order w) := by
  obtain ⟨i0, hi, hz0, hz1, hz2⟩ := info_parts infoShell
  go_enter Try.func33, Try.ntmps33
  go_wp2_with (with_reducible refine wpList_make_own _ rfl (.const (.int .i64 0)) (.const (.int .i64 19)) 24 rfl w.heap.size 29 i0 _ 3 Try.underlying24 hi hz0 hz1 .i64 .i64 19 19 rfl rfl rfl (by rw [hz2]; omega) (by simp [maxLen]) (Nat.le_refl _) ?_; intro w1 hown1 hg1)
  go_loopg [1, 2] 8 (fun gk v i wr => ∃ s : Nat, gk = 9 - s ∧ 1 ≤ s ∧ s ≤ 9 ∧ i = .int .i64 s ∧ wr.ownsRow w.heap.size 29 3 v (sumUp s).length (flat (sumUp s)) ∧ Below w.heap.size w wr)
  case atStart => exact ⟨1, rfl, by omega, by omega, rfl, by rw [sumUp_one]; exact hown1, (Below.refl _ _).grown hg1 (Nat.le_refl _) (by simp)⟩
  case round =>
    obtain ⟨s, rfl, hs1, hs9, rfl, hown, hbel⟩ := hrel
    obtain ⟨wo, rfl⟩ : ∃ wo : World, wo = wr := ⟨_, rfl⟩
    clear hown1 hg1
    by_cases h8 : s ≤ 8
    · have hd8 : decide ((s : Int) ≤ 8) = true := decide_eq_true (by omega)
      go_wp2_with fail
      go_loopg [1, 3] 8 (fun gk v i wr => ∃ n : Nat, gk = 9 - n ∧ 1 ≤ n ∧ n ≤ min s 7 + 1 ∧ i = .int .i64 n ∧ wr.ownsRow w.heap.size 29 3 v (sumUp s ++ rowUp s n).length (flat (sumUp s ++ rowUp s n)) ∧ Below w.heap.size w wr)
      case atStart => exact ⟨1, rfl, by omega, by omega, rfl, by rw [rowUp_one, List.append_nil]; exact hown, hbel⟩
      case round =>
        clear hown hbel
        obtain ⟨n, rfl, hn1, hn9, rfl, hown, hbel⟩ := hrel
        have hlen := sumUp_le s
        have hlen' := rowUp_le s n
        have hlen2 : (sumUp s ++ rowUp s n).length ≤ 80 := by rw [List.length_append]; omega
        by_cases h7 : 7 < s
        · by_cases hin : n ≤ 7
          · by_cases hc : (s : Int) - n < n
            · by_cases hc3 : (s : Int) - n ≤ 3
              · have hrow : rowUp s (n + 1) = rowUp s n ++ [((n : Int), (s : Int) - n, cap ((s : Int) - n))] := by rw [rowUp_succ, if_pos ⟨hc, hc3, hn1⟩]
                have HR := Lib.hid hrow
                clear hrow
                go_wp2_with (first | (go_at_call 41; refine (impl_cap _ _).mono ?_; rintro e w' ⟨rfl, rfl⟩) | (at_builtin; refine wpList_append_own _ rfl (.tmp 26) (.tmp 32) 24 rfl w.heap.size 29 i0 _ 3 24 Try.underlying24 hi hz0 hz1 hz2 rfl (by omega) _ _ _ rfl (hown.alloc _) ⟨wr.heap.size, 0, none⟩ 1 1 [.int .i64 n, .int .i64 ((s : Int) - n), .int .i64 (cap ((s : Int) - n))] rfl rfl (World.news_of_block (heap_alloc_new wr (.cells #[.int .i64 n, .int .i64 ((s : Int) - n), .int .i64 (cap ((s : Int) - n))] 29))) (by simp [Value.oneCell']) (by unfold maxLen; omega) (by omega) (by have := hbel.size; simp; omega) ?_; intro v' w2 hown' hgrow _))
                have hb2 : Below w.heap.size w w2 := (bel_alloc hbel _).grown hgrow (by have := hbel.size; simp; omega) (fun k hk => (hown.lt k hk).1)
                clear hown hgrow hbel
                go_wp2_with fail
                go_roundg (9 - (n + 1))
                case rel =>
                  refine ⟨n + 1, rfl, by omega, by omega, by go_num, ?_, hb2⟩
                  rw [HR.out, ← List.append_assoc, flat_append, List.length_append]
                  exact hown'
                case measure => omega
              · exfalso; omega
            · have HR := Lib.hid (show rowUp s (n + 1) = rowUp s n by rw [rowUp_succ, if_neg (by omega), List.append_nil])
              go_wp2_with fail
              go_roundg (9 - (n + 1))
              case rel => exact ⟨n + 1, rfl, by omega, by omega, by go_num, by rw [HR.out]; exact hown, hbel⟩
              case measure => omega
          · have HR := Lib.hid (show n = min s 7 + 1 by omega)
            go_wp2_with fail
            go_roundg (9 - (s + 1))
            case rel =>
              refine ⟨s + 1, rfl, by omega, by omega, by go_num, ?_, hbel⟩
              rw [sumUp_succ, ← HR.out]
              exact hown
            case measure => omega
        · by_cases hin : n ≤ s
          · by_cases hc : (s : Int) - n < n
            · by_cases hc3 : (s : Int) - n ≤ 3
              · have hrow : rowUp s (n + 1) = rowUp s n ++ [((n : Int), (s : Int) - n, cap ((s : Int) - n))] := by rw [rowUp_succ, if_pos ⟨hc, hc3, hn1⟩]
                have HR := Lib.hid hrow
                clear hrow
                go_wp2_with (first | (go_at_call 41; refine (impl_cap _ _).mono ?_; rintro e w' ⟨rfl, rfl⟩) | (at_builtin; refine wpList_append_own _ rfl (.tmp 26) (.tmp 32) 24 rfl w.heap.size 29 i0 _ 3 24 Try.underlying24 hi hz0 hz1 hz2 rfl (by omega) _ _ _ rfl (hown.alloc _) ⟨wr.heap.size, 0, none⟩ 1 1 [.int .i64 n, .int .i64 ((s : Int) - n), .int .i64 (cap ((s : Int) - n))] rfl rfl (World.news_of_block (heap_alloc_new wr (.cells #[.int .i64 n, .int .i64 ((s : Int) - n), .int .i64 (cap ((s : Int) - n))] 29))) (by simp [Value.oneCell']) (by unfold maxLen; omega) (by omega) (by have := hbel.size; simp; omega) ?_; intro v' w2 hown' hgrow _))
                have hb2 : Below w.heap.size w w2 := (bel_alloc hbel _).grown hgrow (by have := hbel.size; simp; omega) (fun k hk => (hown.lt k hk).1)
                clear hown hgrow hbel
                go_wp2_with fail
                go_roundg (9 - (n + 1))
                case rel =>
                  refine ⟨n + 1, rfl, by omega, by omega, by go_num, ?_, hb2⟩
                  rw [HR.out, ← List.append_assoc, flat_append, List.length_append]
                  exact hown'
                case measure => omega
              · exfalso; omega
            · have HR := Lib.hid (show rowUp s (n + 1) = rowUp s n by rw [rowUp_succ, if_neg (by omega), List.append_nil])
              go_wp2_with fail
              go_roundg (9 - (n + 1))
              case rel => exact ⟨n + 1, rfl, by omega, by omega, by go_num, by rw [HR.out]; exact hown, hbel⟩
              case measure => omega
          · have HR := Lib.hid (show n = min s 7 + 1 by omega)
            go_wp2_with fail
            go_roundg (9 - (s + 1))
            case rel =>
              refine ⟨s + 1, rfl, by omega, by omega, by go_num, ?_, hbel⟩
              rw [sumUp_succ, ← HR.out]
              exact hown
            case measure => omega
    · have HS := Lib.hid (show s = 9 by omega)
      go_wp2_with fail
      go_ret
      refine ⟨_, rfl, ?_, hbel⟩
      rw [← sumUp_end, ← HS.out]
      exact hown

theorem orderCode_bd : ∀ x ∈ orderCode, 10 ≤ x ∧ x ≤ 71 := by decide +kernel
/-- the shell with an index, and whether there is one -/
def shAt (k : Int) : Sh := order.getD k.toNat (0, 0, 0)
/-- the same, or nothing -/
def atSh (k : Int) : Sh := if inB k 0 18 = true then shAt k else (0, 0, 0)
/-- what a call that looks for a shell by its index leaves -/
def AtEnd (k : Int) (w : World) (e : Ending) (w' : World) : Prop :=
  e = .returned (.tuple #[.agg #[.int .i64 (atSh k).1, .int .i64 (atSh k).2.1, .int .i64 (atSh k).2.2], .bool (inB k 0 18)]) ∧ Below w.heap.size w w'
theorem at_end_no {k : Int} (h : inB k 0 18 = false) {w w' : World} (hb : Below w.heap.size w w') : AtEnd k w (.returned (.tuple #[.agg #[.int .i64 0, .int .i64 0, .int .i64 0], .bool false])) w' := by
  refine ⟨?_, hb⟩
  simp [atSh, h]
theorem at_end_yes {k : Int} (h : inB k 0 18 = true) {s : Sh} (hs : shAt k = s) {w w' : World} (hb : Below w.heap.size w w') : AtEnd k w (.returned (.tuple #[.agg #[.int .i64 s.1, .int .i64 s.2.1, .int .i64 s.2.2], .bool true])) w' := by
  refine ⟨?_, hb⟩
  simp [atSh, h, hs]

theorem spec_order (w : World) : Calls Try.prog 48 #[] w fun e w' => e = .returned (.slice (some ⟨w.heap.size, 0, none⟩) 19 19) ∧ Own w' w.heap.size 3 (orderCode.map (Value.int .i64)).toArray ∧ Below w.heap.size w w' := by
  go_enter Try.func48, Try.ntmps48
  go_wp2_with fail
  go_ret
  exact ⟨rfl, Own.new w _ _, (by repeat (first | exact Below.refl _ _ | assumption | refine bel_drewN ?_ _ | refine bel_drew ?_ | refine bel_alloc ?_ _ | refine bel_set ?_ (by simp; omega) _ | refine bel_set ?_ (by simp) _ | refine bel_trans ?_ (by assumption)))⟩

theorem spec_at (k : Int) (w : World) : Calls Try.prog 36 #[.int .i64 k] w (AtEnd k w) := by
  by_cases h : inB k 0 18 = true
  · have hk := inB_true.1 h
    obtain ⟨j, rfl⟩ := Int.eq_ofNat_of_zero_le hk.1
    have hj : j < orderCode.length := by simp [orderCode]; omega
    have hx := orderCode_bd _ (List.getElem_mem hj)
    have hs : shAt j = shOf orderCode[j] := by
      unfold shAt order
      simp [List.getD, List.getElem?_map, List.getElem?_eq_getElem hj]
    have HE := fun w' => @at_end_yes (j : Int) h _ hs w w'
    have hcell : ∀ w' b, Own w' b 3 (orderCode.map (Value.int .i64)).toArray → w'.cell? ⟨b, j, none⟩ = some (.int .i64 orderCode[j]) := fun w' b ho => by
      rw [ho.cell]
      simp [List.getElem?_map, List.getElem?_eq_getElem hj]
    have hj19 : j < 19 := hj
    unfold shOf at HE
    generalize orderCode[j] = x at *
    clear hs
    go_enter Try.func36, Try.ntmps36
    go_wp2_with fail
    refine (in_any _ _ _ _).mono ?_
    rintro e w' ⟨rfl, rfl⟩
    go_wp2_with fail
    refine (spec_order _).mono ?_
    rintro e w1 ⟨rfl, ho, hb1⟩
    have hc := hcell _ _ ho
    clear hcell
    have O1 := (Own.new w 29 #[.int .i64 0, .int .i64 0, .int .i64 0]).below hb1
    have q1 := O1.cell
    have f1 := O1.frozen
    have l1 := O1.lt
    simp only [World.size_alloc] at hc
    go_wp2_with fail
    refine (spec_cap _ _).mono ?_
    rintro e w' ⟨rfl, rfl⟩
    go_wp2_with fail
    refine bodyPost_ret (v := .tuple #[.agg #[.int .i64 (x / 10), .int .i64 (x % 10), .int .i64 (cap (x % 10))], .bool true]) (by simp [results, Try.results36, go_sem, q1]) rfl ?_
    exact HE _ (by repeat (first | exact Below.refl _ _ | assumption | refine bel_drewN ?_ _ | refine bel_drew ?_ | refine bel_alloc ?_ _ | refine bel_set ?_ (by simp; omega) _ | refine bel_set ?_ (by simp) _ | refine bel_trans ?_ (by assumption)))
  · have h : inB k 0 18 = false := by simpa using h
    have HE := fun w' => @at_end_no k h w w'
    go_enter Try.func36, Try.ntmps36
    go_wp2_with fail
    refine (in_any _ _ _ _).mono ?_
    rintro e w' ⟨rfl, rfl⟩
    go_wp2_with fail
    refine bodyPost_ret (v := .tuple #[.agg #[.int .i64 0, .int .i64 0, .int .i64 0], .bool false]) (by simp [results, Try.results36, go_sem]) rfl ?_
    exact HE _ (by repeat (first | exact Below.refl _ _ | assumption | refine bel_drewN ?_ _ | refine bel_drew ?_ | refine bel_alloc ?_ _ | refine bel_set ?_ (by simp; omega) _ | refine bel_set ?_ (by simp) _ | refine bel_trans ?_ (by assumption)))

theorem impl_at (k : Int) (w : World) : Calls Try.prog 18 #[.int .i64 k] w (AtEnd k w) := by
  by_cases h : inB k 0 18 = true
  · have hk := inB_true.1 h
    obtain ⟨j, rfl⟩ := Int.eq_ofNat_of_zero_le hk.1
    have hk1 : (j : Int) < 19 := by omega
    have hj : j < order.length := by rw [order_length]; omega
    have hs : shAt j = order[j] := by simp [shAt, List.getD, List.getElem?_eq_getElem hj]
    have HE := fun w' => @at_end_yes (j : Int) h _ hs w w'
    have hget : order[j]? = some order[j] := List.getElem?_eq_getElem hj
    have HG := Lib.hid hget
    clear hget hs
    go_enter Try.func18, Try.ntmps18
    go_wp2_with fail
    refine (impl_filling _).mono ?_
    rintro e w1 ⟨v, rfl, hown, hb1⟩
    have O1 := (Own.new w 29 #[.int .i64 0, .int .i64 0, .int .i64 0]).below hb1
    have q1 := O1.cell
    have f1 := O1.frozen
    have l1 := O1.lt
    obtain ⟨A, c, hv, h1, h2, h3⟩ := ShAt.of_own hown
    obtain ⟨b, off, ha, hlt, hc⟩ := h3 (by rw [order_length]; omega)
    subst ha
    obtain ⟨c0, c1, c2⟩ := hc j _ HG.out
    rw [order_length] at hv
    subst hv
    clear hc hown h1 h3
    generalize order[j] = s at *
    go_wp2_with fail
    refine bodyPost_ret (v := .tuple #[.agg #[.int .i64 s.1, .int .i64 s.2.1, .int .i64 s.2.2], .bool true]) (by simp [results, Try.results18, go_sem, q1]) rfl ?_
    exact HE _ (by repeat (first | exact Below.refl _ _ | assumption | refine bel_drewN ?_ _ | refine bel_drew ?_ | refine bel_alloc ?_ _ | refine bel_set ?_ (by simp; omega) _ | refine bel_set ?_ (by simp) _ | refine bel_trans ?_ (by assumption)))
  · have h : inB k 0 18 = false := by simpa using h
    have hk := inB_false.1 h
    have HE := fun w' => @at_end_no k h w w'
    by_cases hk0 : k < 0
    · go_enter Try.func18, Try.ntmps18
      go_wp2_with fail
      refine bodyPost_ret (v := .tuple #[.agg #[.int .i64 0, .int .i64 0, .int .i64 0], .bool false]) (by simp [results, Try.results18, go_sem]) rfl ?_
      exact HE _ (by repeat (first | exact Below.refl _ _ | assumption | refine bel_drewN ?_ _ | refine bel_drew ?_ | refine bel_alloc ?_ _ | refine bel_set ?_ (by simp; omega) _ | refine bel_set ?_ (by simp) _ | refine bel_trans ?_ (by assumption)))
    · have hk1 : 19 ≤ k := by omega
      go_enter Try.func18, Try.ntmps18
      go_wp2_with fail
      refine bodyPost_ret (v := .tuple #[.agg #[.int .i64 0, .int .i64 0, .int .i64 0], .bool false]) (by simp [results, Try.results18, go_sem]) rfl ?_
      exact HE _ (by repeat (first | exact Below.refl _ _ | assumption | refine bel_drewN ?_ _ | refine bel_drew ?_ | refine bel_alloc ?_ _ | refine bel_set ?_ (by simp; omega) _ | refine bel_set ?_ (by simp) _ | refine bel_trans ?_ (by assumption)))

theorem eq_shell (x y z : Int) (w : World) : Calls Try.prog 38 #[.agg #[.int .i64 x, .int .i64 y, .int .i64 z], .agg #[.int .i64 x, .int .i64 y, .int .i64 z]] w fun e w' => e = .returned (.bool true) ∧ Below w.heap.size w w' := by
  go_enter Try.func38, Try.ntmps38
  go_wp2_with fail
  go_ret
  exact ⟨rfl, (by repeat (first | exact Below.refl _ _ | assumption | refine bel_drewN ?_ _ | refine bel_drew ?_ | refine bel_alloc ?_ _ | refine bel_set ?_ (by simp; omega) _ | refine bel_set ?_ (by simp) _ | refine bel_trans ?_ (by assumption)))⟩

/-- each shell in the order is a full one, and the next one stands behind it -/
def stepOk (k : Int) : Bool :=
  let s := atSh k; let t := atSh (k + 1)
  shB s.1 s.2.1 s.2.2 && s.2.2 == cap s.2.1 && (k == 18 || (decide (s.1 + s.2.1 < t.1 + t.2.1) || (t.1 + t.2.1 == s.1 + s.2.1 && decide (s.1 < t.1))))
theorem stepOk_all : ((List.range 19).all fun k => stepOk k) = true := by decide +kernel
theorem stepOk_of {k : Int} (h0 : 0 ≤ k) (h1 : k ≤ 18) : stepOk k = true := by
  obtain ⟨j, rfl⟩ := Int.eq_ofNat_of_zero_le h0
  exact List.all_eq_true.1 stepOk_all j (by simp; omega)

theorem stepOk_parts {k : Int} (h : stepOk k = true) (hk : k ≤ 18) : shB (atSh k).1 (atSh k).2.1 (atSh k).2.2 = true ∧ (atSh k).2.2 = cap (atSh k).2.1 ∧
    (k < 18 → (atSh k).1 + (atSh k).2.1 < (atSh (k + 1)).1 + (atSh (k + 1)).2.1 ∨ (atSh (k + 1)).1 + (atSh (k + 1)).2.1 = (atSh k).1 + (atSh k).2.1 ∧ (atSh k).1 < (atSh (k + 1)).1) := by
  unfold stepOk at h
  simp only [Bool.and_eq_true, Bool.or_eq_true, beq_iff_eq, decide_eq_true_eq] at h
  exact ⟨h.1.1, h.1.2, fun hk => h.2.resolve_left (by omega)⟩
theorem shB_bd {n l c : Int} (h : shB n l c = true) : 1 ≤ n ∧ n ≤ 7 ∧ 0 ≤ l ∧ l ≤ 3 := by
  have := shB_true.1 h; omega

/-- the electrons of the first shells of the order -/
def psum (j : Nat) : Int := ((List.range j).map fun (i : Nat) => (atSh i).2.2).sum
theorem psum_succ (j : Nat) : psum (j + 1) = psum j + (atSh j).2.2 := by simp [psum, List.range_succ]
theorem psum_end : psum 19 = 118 := by decide +kernel
theorem psum_all : ((List.range 19).all fun j => decide (0 ≤ psum j ∧ psum j ≤ 118)) = true := by decide +kernel
theorem psum_bd {j : Nat} (h : j < 19) : 0 ≤ psum j ∧ psum j ≤ 118 := by
  have := List.all_eq_true.1 psum_all j (by simp; omega)
  simpa using this
theorem apart_all : ((List.range 19).all fun i => (List.range 19).all fun k => i == k || !((atSh i).1 == (atSh k).1 && (atSh i).2.1 == (atSh k).2.1)) = true := by decide +kernel
theorem apart_of {i k : Nat} (hi : i < 19) (hk : k < 19) (hne : i ≠ k) : ((atSh i).1 == (atSh k).1) = true → ((atSh i).2.1 == (atSh k).2.1) = false := by
  have h := List.all_eq_true.1 (List.all_eq_true.1 apart_all i (by simp; omega)) k (by simp; omega)
  intro h1
  simpa [hne, h1] using h

end Go.Proofs.Ytgemocbpfbdnmaa
