/-
  Draws of configurations by the functions that the laws call; append of a part of a list to a list of the call's own.
-/
import Derived.Test.YtgmdljlbiokcaaaDoorDrawConfig
namespace Go.Proofs.YtgmdljlbiokcaaaDoor
open Go.ChangeShapes Go.WideShapes Go.ChangeAt Go.RowKit Go.Deep Go.Joins
set_option linter.unusedVariables false

theorem OwnSh.less {w : World} {B B' : Nat} {v : Value} {l : List Sh} (h : OwnSh w B v l) (hB : B' ≤ B) : OwnSh w B' v l := by
  refine ⟨h.1, ?_⟩
  rcases h.2 with h | ⟨g, cap, cur, hv, hb, hr⟩
  · exact .inl h
  · exact .inr ⟨g, cap, cur, hv, by omega, hr⟩
/-- what a call that draws a configuration leaves -/
def ConfDraw (w : World) (e : Ending) (w' : World) : Prop := ∃ v l, e = .returned v ∧ l.length ≤ 12 ∧ OwnSh w' w.heap.size v l ∧ Below w.heap.size w w'
theorem conf_draw {w w1 w2 : World} {g K K' : Nat} {e : Ending} (hb1 : Below w.heap.size w w1) (hr1 : Rdr w1 w.heap.size g K) (h : ConfEnd w1 w.heap.size g K' e w2) : ConfDraw w e w2 := by
  obtain ⟨v, l, he, hl, ho, hr, hg⟩ := h
  exact ⟨v, l, he, hl, ho.less hb1.size, below_pick hb1 hr1 hg⟩





theorem draw_conf_text (A : Option Addr) (n c : Nat) (w : World) (h2 : n ≤ c) (hm : c ≤ maxLen) (h5 : Bytes w w.heap.size A n) :
    Calls Tryd.prog 22 #[.slice A n c] w (ConfDraw w) := by
  go_enter Tryd.func22, Tryd.ntmps22
  go_wp2_with fail
  refine (open_any _ _ _ _ h2 hm h5).mono ?_
  rintro e w1 ⟨g, rfl, hr1, hb1⟩
  go_wp2_with fail
  refine (l92_config _ g 0 (by omega) _ hr1).mono ?_
  rintro e w2 hce
  have hcd := conf_draw hb1 hr1 hce
  clear hce
  obtain ⟨v, l, rfl, hl, ho, hb⟩ := hcd
  go_wp2_with fail
  go_ret
  exact ⟨v, l, rfl, hl, ho, hb⟩


/-- 'append' of a list to a list of the call's own, as a step of a region that draws its order -/
theorem step_app {ops : Array Oper} {o : Oper} {a : Act} {w : World} {K : Act → World → Prop} {Q : Exit → Act → World → Prop} {E : Prop} (B : Nat) (hgd : o.guard = none) (ks kx : Nat)
    (ho : o.op = .call { callee := .builtin .append, args := #[.tmp ks, .tmp kx], argTypes := #[34, 34] })
    (v : Value) (l : List Sh) (hs : a.eval (.tmp ks) = v) (hown : OwnSh w B v l) (hB : B ≤ w.heap.size) (ad : Addr) (r : List Sh) (m c : Nat) (hm : r.length = m) (hx : a.eval (.tmp kx) = .slice (some ad) m c)
    (hnew : ∀ j u, (flat r)[j]? = some u → w.cell? (ad.add j) = some u) (hl : l.length + r.length ≤ 16777216)
    (h : ∀ v' w', OwnSh w' B v' (l ++ r) → w.grownBy w' v.ownBlock → (v'.ownBlock = v.ownBlock ∨ v'.ownBlock = some w.heap.size) → K (a.put o.dst v') w') :
    if Region.wanted o (yielded ops a.tmps) = true then Oper.wp Tryd.prog o a w K Q else E := by
  have hw : Region.wanted o (yielded ops a.tmps) = true := by simp [Region.wanted, hgd]
  rw [if_pos hw]
  subst hm
  obtain ⟨i0, hi, hz0, hz1, hz2⟩ := info_parts shInfo'
  have h1 : ∀ u ∈ flat r, u.oneCell' = true := by
    intro u hu
    simp only [flat, List.mem_flatMap, shCells] at hu
    obtain ⟨s, _, hu⟩ := hu
    simp only [List.mem_cons, List.not_mem_nil, or_false] at hu
    rcases hu with rfl | rfl | rfl <;> rfl
  obtain ⟨v', w', hr, h2, h3, h4, h5⟩ := run_append_own_at (P := Tryd.prog) w B 34 o.type 24 i0 _ 3 24 Tryd.underlying34 hi hz0 hz1 hz2 rfl (by omega) v l.length (flat l) hown
    ad r.length c (flat r) (flat_length r) hnew h1 (by unfold maxLen; omega) (by omega) hB
  unfold Oper.wp execOp
  simp only [ho, resolve, invoke, builtin, Sem.run_bind, Sem.run_pure, Result.andThen_ok, List.map_toArray, List.map_cons, List.map_nil, hs, hx, hr]
  refine h v' w' ?_ h3 h5
  unfold OwnSh
  rw [flat_append, List.length_append]
  exact h2

/-- 'append' of a list to a list of the call's own, at a plain region's list -/
theorem app_list {ops : Array Oper} {rest : List Oper} {o : Oper} {a : Act} {w : World} {Q : Exit → Act → World → Prop} (B : Nat) (hgd : o.guard = none) (ks kx : Nat)
    (ho : o.op = .call { callee := .builtin .append, args := #[.tmp ks, .tmp kx], argTypes := #[34, 34] })
    (v : Value) (l : List Sh) (hs : a.eval (.tmp ks) = v) (hown : OwnSh w B v l) (hB : B ≤ w.heap.size) (ad : Addr) (r : List Sh) (m c : Nat) (hm : r.length = m) (hx : a.eval (.tmp kx) = .slice (some ad) m c)
    (hnew : ∀ j u, (flat r)[j]? = some u → w.cell? (ad.add j) = some u) (hl : l.length + r.length ≤ 16777216)
    (h : ∀ v' w', OwnSh w' B v' (l ++ r) → w.grownBy w' v.ownBlock → (v'.ownBlock = v.ownBlock ∨ v'.ownBlock = some w.heap.size) → wpList Tryd.prog ops Q rest (a.put o.dst v') w') :
    wpList Tryd.prog ops Q (o :: rest) a w := by
  refine wpList_plain hgd fun K hK => ?_
  subst hm
  obtain ⟨i0, hi, hz0, hz1, hz2⟩ := info_parts shInfo'
  have h1 : ∀ u ∈ flat r, u.oneCell' = true := by
    intro u hu
    simp only [flat, List.mem_flatMap, shCells] at hu
    obtain ⟨s, _, hu⟩ := hu
    simp only [List.mem_cons, List.not_mem_nil, or_false] at hu
    rcases hu with rfl | rfl | rfl <;> rfl
  obtain ⟨v', w', hr, h2, h3, h4, h5⟩ := run_append_own_at (P := Tryd.prog) w B 34 o.type 24 i0 _ 3 24 Tryd.underlying34 hi hz0 hz1 hz2 rfl (by omega) v l.length (flat l) hown
    ad r.length c (flat r) (flat_length r) hnew h1 (by unfold maxLen; omega) (by omega) hB
  unfold Oper.wp execOp
  simp only [ho, resolve, invoke, builtin, Sem.run_bind, Sem.run_pure, Result.andThen_ok, List.map_toArray, List.map_cons, List.map_nil, hs, hx, hr]
  refine hK _ _ (h v' w' ?_ h3 h5)
  unfold OwnSh
  rw [flat_append, List.length_append]
  exact h2

theorem flat_take (l : List Sh) (k : Nat) : flat (l.take k) = (flat l).take (k * 3) := by
  induction l generalizing k with
  | nil => simp [flat]
  | cons s l ih =>
    cases k with
    | zero => simp [flat]
    | succ k =>
      have e : ∀ r : List Sh, flat (s :: r) = .int .i64 s.1 :: .int .i64 s.2.1 :: .int .i64 s.2.2 :: flat r := fun _ => rfl
      rw [List.take_succ_cons, e, e, ih, show (k + 1) * 3 = k * 3 + 1 + 1 + 1 by omega]
      simp
theorem flat_drop (l : List Sh) (k : Nat) : flat (l.drop k) = (flat l).drop (k * 3) := by
  induction l generalizing k with
  | nil => simp [flat]
  | cons s l ih =>
    cases k with
    | zero => simp
    | succ k =>
      have e : ∀ r : List Sh, flat (s :: r) = .int .i64 s.1 :: .int .i64 s.2.1 :: .int .i64 s.2.2 :: flat r := fun _ => rfl
      rw [List.drop_succ_cons, e, ih, show (k + 1) * 3 = k * 3 + 1 + 1 + 1 by omega]
      simp
/-- the cells of a list from an index on -/
def NewsAt (w : World) (ad : Addr) (r : List Sh) : Prop := ∀ j u, (flat r)[j]? = some u → w.cell? (ad.add j) = some u
theorem NewsAt.below {w w' : World} {B : Nat} {ad : Addr} {r : List Sh} (h : NewsAt w ad r) (hb : Below B w w') (hB : ad.block < B) : NewsAt w' ad r := fun j u hj =>
  (hb.cell (p := ad.add j) (by unfold Addr.add; split <;> simpa using hB)).trans (h j u hj)
theorem NewsAt.grown {w w' : World} {row : Option Nat} {ad : Addr} {r : List Sh} (h : NewsAt w ad r) (hg : w.grownBy w' row) (hne : some ad.block ≠ row) : NewsAt w' ad r := fun j u hj =>
  hg.cell (h j u hj) (by unfold Addr.add; split <;> simpa using hne)
theorem OwnSh.news {w : World} {B g cap : Nat} {l : List Sh} (h : OwnSh w B (.slice (some ⟨g, 0, none⟩) l.length cap) l) (i : Nat) (r : List Sh) (hr : r <+: l.drop i) : NewsAt w ⟨g, i * 3, none⟩ r := by
  intro j u hj
  obtain ⟨t, ht⟩ := hr
  have e : (flat l)[i * 3 + j]? = some u := by
    rw [← List.getElem?_drop, ← flat_drop, ← ht, flat_append, List.getElem?_append_left (List.getElem?_eq_some_iff.1 hj).1]
    exact hj
  have hlt : i * 3 + j < l.length * 3 := by have := (List.getElem?_eq_some_iff.1 e).1; rw [flat_length] at this; exact this
  have := (World.ownsRow.cellAt h (i * 3 + j) hlt).trans e
  rw [← this]
  unfold Addr.add
  split
  · subst_vars; rfl
  · rfl
theorem NewsAt.nil (w : World) (ad : Addr) : NewsAt w ad [] := fun j u hj => by simp [flat] at hj
/-- the address of the elements from an index on, as Go has it: one at the capacity stays at the head -/
def partAd (g cap i : Nat) : Addr := if cap = i then ⟨g, 0, none⟩ else (⟨g, 0, none⟩ : Addr).add (i * 3)
theorem partAd_block (g cap i : Nat) : (partAd g cap i).block = g := by unfold partAd Addr.add; split <;> (try split) <;> rfl
theorem OwnSh.newsFrom {w : World} {B g cap : Nat} {l : List Sh} (h : OwnSh w B (.slice (some ⟨g, 0, none⟩) l.length cap) l) (hc : l.length ≤ cap) (i : Nat) : NewsAt w (partAd g cap i) (l.drop i) := by
  unfold partAd
  split
  · rename_i e
    rw [List.drop_eq_nil_of_le (by omega)]
    exact NewsAt.nil _ _
  · have := h.news i (l.drop i) (List.prefix_refl _)
    unfold Addr.add
    split
    · rename_i e
      obtain rfl : i = 0 := by omega
      exact this
    · simpa using this

section
variable (w : World) (g n cap : Nat)
theorem run_part (h : Tryd.prog.underlying 34 = some (.slice (Tryd.prog.elem 34))) (hs : ∀ w, (sizeOf (Tryd.prog.elem 34)).run Tryd.prog w = .ok 3 w) (k : Int) (h0 : 0 ≤ k) (h1 : k ≤ n) :
    (Instr.slice 34 (.slice (some ⟨g, 0, none⟩) n cap) (some (.int .i64 k)) none none).run Tryd.prog w = .ok (.slice (some (partAd g cap k.toNat)) (n - k.toNat) (cap - k.toNat)) w := by
  rw [run_slice_l w _ _ n cap h .i64 k h0 h1, hs]
  simp [Result.andThen, sliced, partAd]
  split <;> simp_all
end
theorem OwnSh.take_at {w : World} {B g cap : Nat} {l : List Sh} (h : OwnSh w B (.slice (some ⟨g, 0, none⟩) l.length cap) l) (hc : l.length ≤ cap) {k : Nat} (hk : k ≤ l.length) :
    ShAt w w.heap.size (.slice (some ⟨g, 0, none⟩) k cap) (l.take k) := by
  have e : (l.take k).length = k := by rw [List.length_take]; omega
  have hm : cap ≤ maxLen := by
    rcases h.2 with ⟨h, _⟩ | ⟨g', cap', cur, hv, hb, hg, hnc, hcm, _⟩
    · cases h
    · injection hv with _ _ hv; omega
  refine ⟨_, cap, by rw [e], by omega, hm, fun hl => ⟨g, 0, rfl, (World.ownsRow.lt h g rfl).2, fun i s hs => ?_⟩⟩
  have hi : i < k := by have := (List.getElem?_eq_some_iff.1 hs).1; omega
  have hs : l[i]? = some s := by rw [← hs, List.getElem?_take_of_lt hi]
  obtain ⟨k0, k1, k2⟩ := flat_get l i s hs
  simp only [Nat.zero_add]
  exact ⟨(World.ownsRow.cellAt h _ (by omega)).trans k0, (World.ownsRow.cellAt h _ (by omega)).trans k1, (World.ownsRow.cellAt h _ (by omega)).trans k2⟩
theorem OwnSh.drop_at {w : World} {B g cap : Nat} {l : List Sh} (h : OwnSh w B (.slice (some ⟨g, 0, none⟩) l.length cap) l) (hc : l.length ≤ cap) {k : Nat} (hk : k < l.length) :
    ShAt w w.heap.size (.slice (some (partAd g cap k)) (l.length - k) (cap - k)) (l.drop k) := by
  have e : (l.drop k).length = l.length - k := List.length_drop
  have hm : cap ≤ maxLen := by
    rcases h.2 with ⟨h, _⟩ | ⟨g', cap', cur, hv, hb, hg, hnc, hcm, _⟩
    · cases h
    · injection hv with _ _ hv; omega
  have ha : partAd g cap k = ⟨g, k * 3, none⟩ := by
    unfold partAd
    rw [if_neg (by omega)]
    unfold Addr.add
    split
    · rename_i e; rw [e]
    · simp
  refine ⟨_, cap - k, by rw [e, ha], by omega, by omega, fun hl => ⟨g, k * 3, rfl, (World.ownsRow.lt h g rfl).2, fun i s hs => ?_⟩⟩
  have hi : k + i < l.length := by have := (List.getElem?_eq_some_iff.1 hs).1; omega
  have hs : l[k + i]? = some s := by rw [← hs, List.getElem?_drop]
  obtain ⟨k0, k1, k2⟩ := flat_get l (k + i) s hs
  rw [show k * 3 + i * 3 = (k + i) * 3 by omega]
  exact ⟨(World.ownsRow.cellAt h _ (by omega)).trans k0, (World.ownsRow.cellAt h _ (by omega)).trans k1, (World.ownsRow.cellAt h _ (by omega)).trans k2⟩
theorem shSize (w : World) : (sizeOf (Tryd.prog.elem 34)).run Tryd.prog w = .ok 3 w := by kernel_rfl
theorem shUnd : Tryd.prog.underlying 34 = some (.slice (Tryd.prog.elem 34)) := by kernel_rfl

theorem flat_set2 (l : List Sh) : ∀ (k : Nat) (s : Sh), l[k]? = some s → ∀ c : Int, (flat l).set (k * 3 + 2) (.int .i64 c) = flat (l.set k (s.1, s.2.1, c)) := by
  have e : ∀ (s : Sh) (r : List Sh), flat (s :: r) = .int .i64 s.1 :: .int .i64 s.2.1 :: .int .i64 s.2.2 :: flat r := fun _ _ => rfl
  induction l with
  | nil => intro k s h; simp at h
  | cons x l ih =>
    intro k s h c
    cases k with
    | zero => simp at h; subst h; rfl
    | succ k =>
      rw [show (x :: l).set (k + 1) (s.1, s.2.1, c) = x :: l.set k (s.1, s.2.1, c) from rfl, e, e, show (k + 1) * 3 + 2 = k * 3 + 2 + 1 + 1 + 1 by omega]
      simp only [List.set_cons_succ]
      rw [ih k s (by simpa using h) c]
theorem cells_own {w : World} {B g n cap : Nat} {l : List Sh} (h : OwnSh w B (.slice (some ⟨g, 0, none⟩) n cap) l) (hn : n = l.length) {k : Nat} {s : Sh} (hs : l[k]? = some s) :
    w.cell? ⟨g, k * 3, none⟩ = some (.int .i64 s.1) ∧ w.cell? ⟨g, k * 3 + 1, none⟩ = some (.int .i64 s.2.1) ∧ w.cell? ⟨g, k * 3 + 2, none⟩ = some (.int .i64 s.2.2) := by
  subst hn
  have hi : k < l.length := (List.getElem?_eq_some_iff.1 hs).1
  obtain ⟨k0, k1, k2⟩ := flat_get l k s hs
  exact ⟨(World.ownsRow.cellAt h _ (by omega)).trans k0, (World.ownsRow.cellAt h _ (by omega)).trans k1, (World.ownsRow.cellAt h _ (by omega)).trans k2⟩
theorem frozen_own {w : World} {B g n cap : Nat} {l : List Sh} (h : OwnSh w B (.slice (some ⟨g, 0, none⟩) n cap) l) (hn : n = l.length) (j : Nat) : w.frozen? ⟨g, j, none⟩ = false := by
  subst hn; exact World.ownsRow.frozenAt h j
theorem count_own {w : World} {B g n cap : Nat} {l : List Sh} (h : OwnSh w B (.slice (some ⟨g, 0, none⟩) n cap) l) (hn : n = l.length) {k : Nat} {s : Sh} (hs : l[k]? = some s) (c : Int) :
    OwnSh (w.setCell ⟨g, k * 3 + 2, none⟩ (.int .i64 c)) B (.slice (some ⟨g, 0, none⟩) n cap) (l.set k (s.1, s.2.1, c)) := by
  subst hn
  have hst := (World.ownsRow.stored h (k * 3 + 2) (.int .i64 c)).1
  rw [flat_set2 l k s hs c] at hst
  unfold OwnSh
  rw [List.length_set]
  exact hst

theorem bel_cut {w w4 w5 : World} {o : Obj} {v4 : Value} {l : List Sh} (hg4 : (w.drew.alloc o).grownBy w4 (some w.heap.size)) (ho4 : OwnSh w4 w.heap.size v4 l) (hg5 : w4.grownBy w5 v4.ownBlock) : Below w.heap.size w w5 := by
  have h1 : Below w.heap.size w w4 := (bel_alloc (bel_drew (Below.refl _ _)) o).grown hg4 (by simp) (fun k e => by injection e with e; omega)
  exact h1.grown hg5 h1.size (fun k e => (World.ownsRow.lt ho4 k e).1)

end Go.Proofs.YtgmdljlbiokcaaaDoor
