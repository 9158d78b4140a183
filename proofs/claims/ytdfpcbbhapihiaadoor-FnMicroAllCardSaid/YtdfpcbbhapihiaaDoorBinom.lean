/-
  Choose of the program and of the reference, for upper numbers to 14.
-/
import Derived.Test.YtdfpcbbhapihiaaDoorScalar
import Derived.OwnWalk
import Derived.Laws.OwnMore
namespace Go.Proofs.YtdfpcbbhapihiaaDoor
open Go.ChangeShapes Go.WideShapes Go.ChangeAt Go.RowKit Go.Deep Go.Joins
set_option linter.unusedVariables false

def bin : Nat → Nat → Nat
  | _, 0 => 1
  | 0, _ + 1 => 0
  | n + 1, k + 1 => bin n k + bin n (k + 1)
theorem bin_zero (n : Nat) : bin n 0 = 1 := by cases n <;> rfl
theorem bin_le (n : Nat) : ∀ k, bin n k ≤ 2 ^ n := by
  induction n with
  | zero => intro k; cases k <;> simp [bin]
  | succ n ih =>
    intro k
    cases k with
    | zero => simp only [bin]; exact Nat.one_le_two_pow
    | succ k => simp only [bin, Nat.pow_succ]; have := ih k; have := ih (k + 1); omega
theorem bin_big (n : Nat) : ∀ k, n < k → bin n k = 0 := by
  induction n with
  | zero => intro k hk; cases k with
    | zero => omega
    | succ k => rfl
  | succ n ih => intro k hk; cases k with
    | zero => omega
    | succ k => simp only [bin]; rw [ih k (by omega), ih (k + 1) (by omega)]
theorem bin_succ (n k : Nat) (h : 0 < k) : bin (n + 1) k = bin n k + bin n (k - 1) := by
  cases k with
  | zero => omega
  | succ k => simp only [bin, Nat.add_sub_cancel]; omega
theorem bin_bd {n : Nat} (h : n ≤ 14) (k : Nat) : bin n k ≤ 16384 := Nat.le_trans (bin_le n k) (Nat.le_trans (Nat.pow_le_pow_right (by omega) h) (by decide))
theorem bin_pos {n : Nat} : ∀ {k : Nat}, k ≤ n → 1 ≤ bin n k := by
  induction n with
  | zero =>
    intro k h
    obtain rfl : k = 0 := by omega
    exact Nat.le_refl 1
  | succ n ih => intro k h; cases k with
    | zero => simp [bin]
    | succ k => simp only [bin]; have := ih (show k ≤ n by omega); omega

def rowL (m : Nat) : List Int := (List.range (m + 1)).map fun j => (bin m j : Int)
def mid (m i : Nat) : List Int := (List.range (m + 2)).map fun j => if i < j then (bin (m + 1) j : Int) else (bin m j : Int)
theorem mid_length (m i : Nat) : (mid m i).length = m + 2 := by simp [mid]
theorem mid_get {m i j : Nat} (h : j < m + 2) : (mid m i)[j]? = some (if i < j then (bin (m + 1) j : Int) else (bin m j : Int)) := by
  simp [mid, h]
theorem rowL_get {m j : Nat} (h : j < m + 1) : (rowL m)[j]? = some (bin m j : Int) := by
  simp [rowL, h]
theorem mid_start (m : Nat) : rowL m ++ [0] = mid m (m + 1) := by
  unfold mid
  rw [List.range_succ, List.map_append]
  congr 1
  · unfold rowL
    refine List.map_congr_left fun j hj => ?_
    have := List.mem_range.1 hj
    rw [if_neg (by omega)]
  · simp [bin_big m (m + 1) (by omega)]
theorem mid_step {m i : Nat} (h0 : 0 < i) (hi : i ≤ m + 1) : (mid m i).set i ((bin m i : Int) + (bin m (i - 1) : Int)) = mid m (i - 1) := by
  apply List.ext_getElem?
  intro j
  by_cases hj : j < m + 2
  · rw [mid_get hj, List.getElem?_set, mid_length]
    by_cases e : i = j
    · subst e
      rw [if_pos rfl, if_pos hj, if_pos (by omega), bin_succ m i h0, Int.natCast_add]
    · rw [if_neg e, mid_get hj]
      by_cases hij : i < j
      · rw [if_pos hij, if_pos (by omega)]
      · rw [if_neg hij, if_neg (by omega)]
  · rw [List.getElem?_eq_none (by simp [mid_length]; omega), List.getElem?_eq_none (by simp [mid_length]; omega)]
theorem mid_end (m : Nat) : mid m 0 = rowL (m + 1) := by
  unfold mid rowL
  refine List.map_congr_left fun j hj => ?_
  split
  · rfl
  · obtain rfl : j = 0 := by omega
    rw [bin_zero, bin_zero]

theorem binStep : ((List.range 15).all fun n => (List.range n).all fun i => (bin n i * (n - i)) / (i + 1) == bin n (i + 1)) = true := by decide +kernel
theorem bin_step {n i : Nat} (hn : n ≤ 14) (hi : i < n) : (bin n i * (n - i)) / (i + 1) = bin n (i + 1) := by
  have := List.all_eq_true.1 binStep n (by simp; omega)
  have := List.all_eq_true.1 this i (by simp; omega)
  simpa using this

/-- an owned slice of numbers -/
def OwnI (w : World) (B : Nat) (v : Value) (xs : List Int) : Prop := w.ownsRow B 3 1 v xs.length (xs.map (Value.int .i64))
theorem OwnI.lit (w : World) (B : Nat) (x : Int) (h : B ≤ w.heap.size) : OwnI (w.alloc (.cells #[.int .i64 x] 3)) B (.slice (some ⟨w.heap.size, 0, none⟩) 1 1) [x] :=
  World.ownsRow_lit w #[.int .i64 x] 1 h (by simp [maxLen]) rfl
theorem OwnI.form {w : World} {B : Nat} {v : Value} {xs : List Int} (h : OwnI w B v xs) (h0 : 0 < xs.length) : ∃ g cap, v = .slice (some ⟨g, 0, none⟩) xs.length cap ∧ B ≤ g ∧ g < w.heap.size ∧ xs.length ≤ cap ∧ cap ≤ maxLen := by
  rcases h.2 with ⟨_, hn⟩ | ⟨g, cap, cur, hv, hb, hg, hnc, hcm, hsz, htk⟩
  · omega
  · exact ⟨g, cap, hv, hb, (Array.getElem?_eq_some_iff.1 hg).1, hnc, hcm⟩
theorem OwnI.get {w : World} {B : Nat} {xs : List Int} {g n cap : Nat} (h : OwnI w B (.slice (some ⟨g, 0, none⟩) n cap) xs) (hn : n = xs.length) {j : Nat} {x : Int} (hx : xs[j]? = some x) : w.cell? ⟨g, j, none⟩ = some (.int .i64 x) := by
  subst hn
  have hj := (List.getElem?_eq_some_iff.1 hx).1
  rw [World.ownsRow.cellAt h j (by omega), List.getElem?_map, hx]
  rfl
theorem OwnI.fro {w : World} {B : Nat} {xs : List Int} {g n cap : Nat} (h : OwnI w B (.slice (some ⟨g, 0, none⟩) n cap) xs) (hn : n = xs.length) (j : Nat) : w.frozen? ⟨g, j, none⟩ = false := by
  subst hn
  exact World.ownsRow.frozenAt h j
theorem OwnI.set_ {w : World} {B : Nat} {xs : List Int} {g n cap : Nat} (h : OwnI w B (.slice (some ⟨g, 0, none⟩) n cap) xs) (hn : n = xs.length) (j : Nat) (x : Int) : OwnI (w.setCell ⟨g, j, none⟩ (.int .i64 x)) B (.slice (some ⟨g, 0, none⟩) n cap) (xs.set j x) := by
  subst hn
  have := (World.ownsRow.stored h j (.int .i64 x)).1
  unfold OwnI
  rw [List.map_set, List.length_set]
  exact this
theorem OwnI.drewN {w : World} {B : Nat} {v : Value} {xs : List Int} (h : OwnI w B v xs) (n : Nat) : OwnI (w.drewN n) B v xs := h
theorem OwnI.alloc {w : World} {B : Nat} {v : Value} {xs : List Int} (h : OwnI w B v xs) (o : Obj) : OwnI (w.alloc o) B v xs := World.ownsRow.alloc h o

theorem intInfo : (Tryd.prog.info? 3).map (fun i => (i.zero, i.size, i.bytes)) = some (some (.int .i64 0), 1, 8) := by kernel_rfl
theorem app_int {ops : Array Oper} {rest : List Oper} {o : Oper} {a : Act} {Q : Exit → Act → World → Prop} {w : World} (B : Nat) (hgd : o.guard = none) (ks kx : Nat)
    (ho : o.op = .call { callee := .builtin .append, args := #[.tmp ks, .tmp kx], argTypes := #[48, 48] })
    (v : Value) (l : List Int) (hs : a.eval (.tmp ks) = v) (hown : OwnI w B v l) (hB : B ≤ w.heap.size) (g : Nat) (s : Int) (hx : a.eval (.tmp kx) = .slice (some ⟨g, 0, none⟩) 1 1)
    (hnew : Own w g 3 #[.int .i64 s]) (hl : l.length ≤ 16777216)
    (h : ∀ v' w', OwnI w' B v' (l ++ [s]) → w.grownBy w' v.ownBlock → (v'.ownBlock = v.ownBlock ∨ v'.ownBlock = some w.heap.size) → wpList Tryd.prog ops Q rest (a.put o.dst v') w') :
    wpList Tryd.prog ops Q (o :: rest) a w := by
  obtain ⟨i0, hi, hz0, hz1, hz2⟩ := info_parts intInfo
  refine wpList_append_own_at w hgd (.tmp ks) (.tmp kx) 48 ho B 3 i0 _ 1 8 Tryd.underlying48 hi hz0 hz1 hz2 rfl (by omega) v l.length (l.map (Value.int .i64)) hs hown ⟨g, 0, none⟩ 1 1 [.int .i64 s] hx rfl
    (World.news_of_block hnew) (by simp [Value.oneCell']) (by unfold maxLen; omega) (by omega) hB ?_
  intro v' w' h1 h2 h3 h4
  refine h v' w' ?_ h2 h4
  unfold OwnI
  rw [List.map_append, List.length_append]
  exact h1
theorem own_at {w : World} {t : TypeId} {C : Array Value} {g : Nat} (h : g = w.heap.size) : Own (w.alloc (.cells C t)) g t C := by rw [h]; exact Own.new w t C


set_option maxHeartbeats 2000000 in
theorem impl_ch (n k : Nat) (hn : n ≤ 14) (hk : k ≤ n) (w : World) : Calls Tryd.prog 13 #[.int .i64 n, .int .i64 k] w fun e w' => e = .returned (.int .i64 (bin n k)) ∧ Below w.heap.size w w' := by
  have d1 : decide (n < k) = false := by simpa using hk
  have d2 : decide (n < 0) = false := by simp
  have d3 : decide (k < 0) = false := by simp
  have d4 : decide (40 < n) = false := by simp; omega
  have hr0 : rowL 0 = [1] := rfl
  have H0 := Lib.hid hr0
  clear hr0
  go_enter Tryd.func13, Tryd.ntmps13
  go_wp2_with fail
  go_loopg [5] n (fun gk v wr => ∃ m : Nat, gk = n - m ∧ m ≤ n ∧ OwnI wr w.heap.size v (rowL m) ∧ Below w.heap.size w wr)
  case atStart => exact ⟨0, rfl, by omega, by rw [H0.out]; exact OwnI.lit w _ 1 (Nat.le_refl _), bel_alloc (Below.refl _ _) _⟩
  case round =>
    obtain ⟨m, rfl, hm, hown, hbel⟩ := hrel
    have hlen : (rowL m).length = m + 1 := by simp [rowL]
    obtain ⟨g, cp, rfl, hgB, hgl, hgc, hcm⟩ := hown.form (by omega)
    rw [hlen] at hown hgc ⊢
    unfold maxLen at hcm
    by_cases hlt : m + 1 ≤ n
    · have hlt' : ((m + 1 : Nat) : Int) ≤ (n : Int) := by omega
      have hd : decide (m + 1 ≤ n) = true := by simpa using hlt
      have hnl : (rowL m ++ [0]).length = m + 2 := by simp [rowL]
      have HM := Lib.hid (mid_start m)
      go_wp2_with (at_builtin; refine app_int w.heap.size rfl 27 28 rfl _ (rowL m) rfl (hown.alloc _) (by simp; omega) _ 0 rfl (own_at (by first | rfl | simp)) (by omega) ?_; intro v' w2 hown' hgr _; obtain ⟨g2, cp2, rfl, hgB2, hgl2, hgc2, hcm2⟩ := hown'.form (by omega); rw [hnl] at hown' hgc2 ⊢)
      have hb2 : Below w.heap.size w w2 := (bel_alloc hbel _).grown hgr (by simp; omega) (fun q hq => (World.ownsRow.lt hown q hq).1)
      rw [HM.out] at hown'
      unfold maxLen at hcm2
      clear hown hgr hbel hnl hgl hgB hgc hcm
      have e0 : IntKind.i64.wrap (((m + 2 : Nat) : Int) - 1) = ((m + 1 : Nat) : Int) := by rw [IntWalk.i64_in _ (by omega)]; omega
      go_wp2_with fail
      go_loopg [6] (m + 1) (fun gk i wr => ∃ j : Nat, j = gk ∧ j ≤ m + 1 ∧ i = .int .i64 j ∧ OwnI wr w.heap.size (.slice (some ⟨g2, 0, none⟩) (m + 2) cp2) (mid m j) ∧ Below w.heap.size w wr)
      case atStart => exact ⟨m + 1, rfl, by omega, by go_num, hown', hb2⟩
      case round =>
        clear hown' hb2 e0
        obtain ⟨j, rfl, hj, rfl, hown, hbel⟩ := hrel
        by_cases h0 : 0 < j
        · have hd0 : decide (0 < j) = true := by simpa using h0
          have hml := mid_length m j
          have g0 : (mid m j)[j]? = some (bin m j : Int) := by rw [mid_get (by omega), if_neg (by omega)]
          have g1 : (mid m j)[j - 1]? = some (bin m (j - 1) : Int) := by rw [mid_get (by omega), if_neg (by omega)]
          have q0 := hown.get (by omega) g0
          have q1 := hown.get (by omega) g1
          have qf := hown.fro (by omega) j
          have b0 := bin_bd (show m ≤ 14 by omega) j
          have b1 := bin_bd (show m ≤ 14 by omega) (j - 1)
          have e1 : IntKind.i64.wrap ((j : Int) - 1) = ((j - 1 : Nat) : Int) := by rw [IntWalk.i64_in _ (by omega)]; omega
          have f0 : (j : Int) < ((m + 2 : Nat) : Int) := by omega
          have f1 : ((j - 1 : Nat) : Int) < ((m + 2 : Nat) : Int) := by omega
          have HS := Lib.hid (mid_step h0 hj)
          have HO := fun u => hown.set_ (by omega) j u
          clear g0 g1 hml
          go_wp2_with fail
          go_region
          go_wp2_with fail
          go_roundg (j - 1)
          case measure => omega
          case rel => exact ⟨j - 1, rfl, by omega, rfl, by rw [← HS.out]; exact HO _, bel_drew (bel_set hbel hgB2 _)⟩
        · obtain rfl : j = 0 := by omega
          have HE := Lib.hid (mid_end m)
          have hml := mid_length m 0
          rw [HE.out] at hown
          clear hml
          go_wp2_with fail
          go_roundg (n - (m + 1))
          case measure => omega
          case rel => exact ⟨m + 1, rfl, by omega, hown, hbel⟩
    · obtain rfl : m = n := by omega
      have hd : decide (m + 1 ≤ m) = false := by simp
      have g0 := rowL_get (show k < m + 1 by omega)
      have q0 := hown.get (by omega) g0
      have f0 : (k : Int) < ((m + 1 : Nat) : Int) := by omega
      clear g0
      go_wp2_with fail
      go_ret
      exact ⟨rfl, hbel⟩

end Go.Proofs.YtdfpcbbhapihiaaDoor
