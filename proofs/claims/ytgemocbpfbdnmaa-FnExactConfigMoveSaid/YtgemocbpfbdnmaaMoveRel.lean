/-
  What a move of an electron returns, as a relation; what the laws say of it. Plain laws.
-/
import Derived.Test.YtgemocbpfbdnmaaMovePlain
namespace Go.Proofs.Ytgemocbpfbdnmaa
set_option linter.unusedVariables false

theorem cfg_sorted {c : List Sh} (h : cfgB c = true) : SortedL c := by
  unfold SortedL
  rw [List.pairwise_iff_getElem]
  have hup : okUp c c.length = true := by
    unfold cfgB at h
    rw [Bool.and_eq_true] at h
    exact h.1
  have hst : ∀ j, 0 < j → (hj : j < c.length) → lessB (c[j - 1]'(by omega)) c[j] = true := by
    intro j h0 hj
    have := okUp_le c (show j + 1 ≤ c.length by omega) hup
    simp only [okUp, okAt, Bool.and_eq_true, Bool.or_eq_true, beq_iff_eq] at this
    have h2 := this.2.2.resolve_left (by omega)
    have e1 : c.getD (j - 1) sh0 = c[j - 1]'(by omega) := by simp [List.getD, List.getElem?_eq_getElem (show j - 1 < c.length by omega)]
    have e2 : c.getD j sh0 = c[j] := by simp [List.getD, List.getElem?_eq_getElem hj]
    rw [e1, e2] at h2
    exact h2
  intro i j hi hj hij
  induction j with
  | zero => omega
  | succ j ih =>
    have h1 := hst (j + 1) (by omega) hj
    by_cases e : i = j
    · subst e; exact h1
    · exact less_trans (ih (by omega) (by omega)) h1
theorem cfg_mem {c : List Sh} (h : cfgB c = true) {s : Sh} (hs : s ∈ c) : okSh s = true := by
  obtain ⟨i, hi, rfl⟩ := List.mem_iff_getElem.1 hs
  have := cfg_sh h hi
  simpa [List.getD, List.getElem?_eq_getElem hi] using this
theorem cfg_of {c : List Sh} (hs : SortedL c) (hk : ∀ s ∈ c, okSh s = true) (hn : c ≠ []) : cfgB c = true := by
  unfold cfgB
  rw [Bool.and_eq_true]
  refine ⟨?_, decide_eq_true (List.length_pos_iff.2 hn)⟩
  have : ∀ k, k ≤ c.length → okUp c k = true := by
    intro k
    induction k with
    | zero => intro _; rfl
    | succ k ih =>
      intro hk2
      simp only [okUp, okAt, Bool.and_eq_true, Bool.or_eq_true, beq_iff_eq]
      have e2 : c.getD k sh0 = c[k]'(by omega) := by simp [List.getD, List.getElem?_eq_getElem (show k < c.length by omega)]
      refine ⟨ih (by omega), by rw [e2]; exact hk _ (List.getElem_mem _), ?_⟩
      by_cases h0 : k = 0
      · exact .inl h0
      · have e1 : c.getD (k - 1) sh0 = c[k - 1]'(by omega) := by simp [List.getD, List.getElem?_eq_getElem (show k - 1 < c.length by omega)]
        rw [e1, e2]
        unfold SortedL at hs
        rw [List.pairwise_iff_getElem] at hs
        exact .inr (hs (k - 1) k (by omega) (by omega) (by omega))
  exact this _ (Nat.le_refl _)

theorem el_some {c : List Sh} {n o : Int} {s : Sh} (hs : SortedL c) (hm : s ∈ c) (h1 : s.1 = n) (h2 : s.2.1 = o) : elAt c n o = s.2.2 := by
  unfold elAt
  cases hf : c.find? (fun s => s.1 == n && s.2.1 == o) with
  | none =>
    have := List.find?_eq_none.1 hf s hm
    simp [h1, h2] at this
  | some t =>
    have ht := List.mem_of_find?_eq_some hf
    have hp := List.find?_some hf
    simp at hp
    have e : t = s := by
      obtain ⟨i, hi, hit⟩ := List.mem_iff_getElem.1 ht
      obtain ⟨j, hj, hjs⟩ := List.mem_iff_getElem.1 hm
      unfold SortedL at hs
      rw [List.pairwise_iff_getElem] at hs
      rcases Nat.lt_trichotomy i j with h | h | h
      · have := hs i j hi hj h
        rw [hit, hjs] at this
        simp [lessB] at this
        omega
      · subst h; rw [← hit, hjs]
      · have := hs j i hj hi h
        rw [hit, hjs] at this
        simp [lessB] at this
        omega
    rw [e]
theorem el_none {c : List Sh} {n o : Int} (h : ∀ s ∈ c, ¬ (s.1 = n ∧ s.2.1 = o)) : elAt c n o = 0 := by
  unfold elAt
  rw [List.find?_eq_none.2 fun s hs => by have := h s hs; simp; omega]
theorem el_Gd {r : List Sh} {f : Pr → Int} (h : Gd r f) (n o : Int) : elAt r n o = f (n, o) := by
  by_cases hf : f (n, o) = 0
  · rw [hf]
    refine el_none fun s hs => ?_
    rintro ⟨rfl, rfl⟩
    have := (h.2 s).1 hs
    omega
  · exact el_some h.1 ((h.2 (n, o, f (n, o))).2 ⟨hf, rfl⟩) rfl rfl
theorem cfg_Gd {c : List Sh} (h : cfgB c = true) : Gd c (fun q => elAt c q.1 q.2) := by
  have hs := cfg_sorted h
  refine ⟨hs, fun s => ?_⟩
  constructor
  · intro hm
    have hb := okSh_bd (cfg_mem h hm)
    exact ⟨by omega, el_some hs hm rfl rfl⟩
  · rintro ⟨h1, h2⟩
    refine Decidable.byContradiction fun hn => h1 ?_
    rw [← h2]
    refine el_none fun t ht => ?_
    rintro ⟨e1, e2⟩
    have := el_some hs ht e1 e2
    dsimp only at h2 this
    rw [this] at h2
    exact hn (by rwa [show s = t from Prod.ext e1.symm (Prod.ext e2.symm h2.symm)])
/-- a function of the numbers makes a configuration -/
def okF (f : Pr → Int) : Prop := (∀ n o, f (n, o) ≠ 0 → okSh (n, o, f (n, o)) = true) ∧ ∃ n o, f (n, o) ≠ 0
theorem cfg_okF {r : List Sh} {f : Pr → Int} (h : Gd r f) : cfgB r = true ↔ okF f := by
  constructor
  · intro hc
    refine ⟨fun n o hf => cfg_mem hc ((h.2 (n, o, f (n, o))).2 ⟨hf, rfl⟩), ?_⟩
    have hp := cfg_pos hc
    cases r with
    | nil => simp at hp
    | cons s r => exact ⟨s.1, s.2.1, by have := (h.2 s).1 (by simp); omega⟩
  · rintro ⟨h1, n, o, hf⟩
    refine cfg_of h.1 (fun s hs => ?_) (fun e => ?_)
    · obtain ⟨a, b, x⟩ := s
      obtain ⟨e1, e2⟩ := (h.2 _).1 hs
      dsimp only at e1 e2
      have := h1 a b (by rw [e2]; exact e1)
      rwa [e2] at this
    · have := (h.2 (n, o, f (n, o))).2 ⟨hf, rfl⟩
      rw [e] at this
      simp at this

/-- one electron from one shell to another -/
def mvF (f : Pr → Int) (n l k m : Int) : Pr → Int := upd (upd f (n, l) (f (n, l) - 1)) (k, m) (upd f (n, l) (f (n, l) - 1) (k, m) + 1)
theorem mvF_at {f : Pr → Int} {n l k m : Int} (h : (n, l) ≠ (k, m)) (q : Pr) : mvF f n l k m q = f q + (if q = (k, m) then 1 else 0) - (if q = (n, l) then 1 else 0) := by
  unfold mvF upd
  by_cases h1 : q = (k, m)
  · rw [if_pos h1, if_pos h1, if_neg (Ne.symm h), if_neg (by rw [h1]; exact Ne.symm h), h1]; omega
  · by_cases h2 : q = (n, l)
    · rw [if_neg h1, if_neg h1, if_pos h2, if_pos h2, h2]; omega
    · rw [if_neg h1, if_neg h1, if_neg h2, if_neg h2]; omega

/-- the numbers of electrons of a list -/
def elF (c : List Sh) : Pr → Int := fun q => elAt c q.1 q.2
/-- what a move of an electron returns -/
def MoveR (c : List Sh) (n l k m : Int) (r : List Sh) (b : Bool) : Prop :=
  (b = true ∧ cfgB c = true ∧ elAt c n l ≠ 0 ∧ (n, l) ≠ (k, m) ∧ Gd r (mvF (elF c) n l k m) ∧ cfgB r = true) ∨
  (b = false ∧ r = [] ∧ (cfgB c = true → elAt c n l ≠ 0 → (n, l) ≠ (k, m) → ¬ okF (mvF (elF c) n l k m)))
theorem MoveR.uniq {c r r' : List Sh} {n l k m : Int} {b b' : Bool} (h : MoveR c n l k m r b) (h' : MoveR c n l k m r' b') : r = r' ∧ b = b' := by
  rcases h with ⟨rfl, h1, h2, h3, h4, h5⟩ | ⟨rfl, rfl, h6⟩ <;> rcases h' with ⟨rfl, k1, k2, k3, k4, k5⟩ | ⟨rfl, rfl, k6⟩
  · exact ⟨h4.uniq k4, rfl⟩
  · exact absurd ((cfg_okF h4).1 h5) (k6 h1 h2 h3)
  · exact absurd ((cfg_okF k4).1 k5) (h6 k1 k2 k3)
  · exact ⟨rfl, rfl⟩

/-- sums over a list -/
def sumS (φ : Sh → Int) (l : List Sh) : Int := (l.map φ).sum
theorem vsum_sum (φ : Sh → Int) (l : List Sh) : ∀ k, k ≤ l.length → vsum φ l k = sumS φ (l.take k) := by
  intro k
  induction k with
  | zero => intro _; rfl
  | succ k ih =>
    intro hk
    have hlt : k < l.length := by omega
    have hx : l.getD k sh0 = l[k] := by simp [List.getD, List.getElem?_eq_getElem hlt]
    simp only [vsum]
    rw [ih (by omega), hx, List.take_succ_eq_append_getElem hlt]
    simp only [sumS, List.map_append, List.sum_append, List.map_cons, List.map_nil, List.sum_cons, List.sum_nil, Int.add_zero]
theorem sum_insS (φ : Sh → Int) (s : Sh) : ∀ l : List Sh, sumS φ (insS l s) = sumS φ l + φ s := by
  intro l
  induction l with
  | nil => simp [sumS, insS]
  | cons x l ih =>
    unfold insS
    split
    · simp [sumS]; omega
    · simp only [sumS, List.map_cons, List.sum_cons] at ih ⊢
      rw [ih]; omega
theorem GiveR.sum {φ : Sh → Int} (hφ : ∀ n o x d, φ (n, o, x + d) = φ (n, o, x) + φ (n, o, d)) {c r : List Sh} {n o d : Int} (h : GiveR c n o d r) (h0 : 0 ≤ elAt c n o + d) (hs : SortedL c) : sumS φ r = sumS φ c + φ (n, o, d) := by
  have hz : ∀ n o, φ (n, o, 0) = 0 := fun n o => by have := hφ n o 0 0; simp at this; omega
  rcases h with ⟨hno, rfl⟩ | ⟨k, hk, k1, k2, hr⟩
  · rw [putS_ins, sum_insS]
  · have hx : c.getD k sh0 = c[k] := by simp [List.getD, List.getElem?_eq_getElem hk]
    have hel : elAt c n o = c[k].2.2 := by
      have h1 := k1
      have h2 := k2
      rw [hx] at h1 h2
      exact el_some hs (List.getElem_mem hk) h1 h2
    have hc : sumS φ c = sumS φ (c.take k ++ c[k] :: c.drop (k + 1)) := by
      rw [← List.drop_eq_getElem_cons hk, List.take_append_drop]
    have hset : ∀ y, c.set k y = c.take k ++ y :: c.drop (k + 1) := fun y => by rw [List.set_eq_take_append_cons_drop, if_pos hk]
    rw [hset] at hr
    rw [hx] at k1 k2 hr
    rw [hc]
    rw [hel] at h0
    generalize c[k] = s at *
    obtain ⟨s1, s2, s3⟩ := s
    dsimp only at k1 k2 hr h0
    subst k1 k2
    rcases hr with ⟨hp, rfl⟩ | ⟨hp, rfl⟩
    · simp only [sumS, List.map_append, List.map_cons, List.sum_append, List.sum_cons]
      rw [hφ]; omega
    · have h3 := hφ s1 s2 s3 d
      rw [show s3 + d = 0 by omega, hz] at h3
      simp only [sumS, List.map_append, List.map_cons, List.sum_append, List.sum_cons]
      omega
/-- there is a changed list -/
theorem give_ex (c : List Sh) (n o d : Int) : ∃ r, GiveR c n o d r := by
  by_cases h : ∀ k, k < c.length → ¬ ((c.getD k sh0).1 = n ∧ (c.getD k sh0).2.1 = o)
  · exact ⟨_, .inl ⟨h, rfl⟩⟩
  · have ⟨k, hk⟩ : ∃ k, k < c.length ∧ (c.getD k sh0).1 = n ∧ (c.getD k sh0).2.1 = o := by
      refine Classical.byContradiction fun h' => h fun k hk e => h' ⟨k, hk, e⟩
    by_cases hp : 0 < (c.getD k sh0).2.2 + d
    · exact ⟨_, .inr ⟨k, hk.1, hk.2.1, hk.2.2, .inl ⟨hp, rfl⟩⟩⟩
    · exact ⟨_, .inr ⟨k, hk.1, hk.2.1, hk.2.2, .inr ⟨hp, rfl⟩⟩⟩
/-- one give and another one: the move -/
theorem give_two {c r1 r2 : List Sh} {n l k m : Int} (hc : cfgB c = true) (he : elAt c n l ≠ 0) (h1 : GiveR c n l (-1) r1) (h2 : GiveR r1 k m 1 r2) : Gd r2 (mvF (elF c) n l k m) ∧ Gd r1 (upd (elF c) (n, l) (elF c (n, l) - 1)) ∧ ∀ q, 0 ≤ upd (elF c) (n, l) (elF c (n, l) - 1) q := by
  have hg := cfg_Gd hc
  have hpos : ∀ q, 0 ≤ elF c q := fun q => by
    by_cases h : elF c q = 0
    · omega
    · have := cfg_mem hc ((hg.2 (q.1, q.2, elF c q)).2 ⟨h, rfl⟩)
      have := okSh_bd this
      dsimp only at this
      omega
  have hp := hpos (n, l)
  have he' : elF c (n, l) ≠ 0 := he
  have g1 := Gd.give hg h1 (by show 0 ≤ elF c (n, l) + -1; omega) (fun h => absurd h he')
  have g1 : Gd r1 (upd (elF c) (n, l) (elF c (n, l) - 1)) := g1
  have hpos2 : ∀ q, 0 ≤ upd (elF c) (n, l) (elF c (n, l) - 1) q := fun q => by
    unfold upd
    split
    · omega
    · exact hpos q
  have g2 := Gd.give g1 h2 (by have := hpos2 (k, m); omega) (fun _ => by decide)
  exact ⟨g2, g1, hpos2⟩
theorem move_sum {φ : Sh → Int} (hφ : ∀ n o x d, φ (n, o, x + d) = φ (n, o, x) + φ (n, o, d)) {c r : List Sh} {n l k m : Int} (h : MoveR c n l k m r true) : sumS φ r = sumS φ c + φ (n, l, -1) + φ (k, m, 1) := by
  rcases h with ⟨_, h1, h2, h3, h4, h5⟩ | ⟨h, _⟩
  · obtain ⟨r1, g1⟩ := give_ex c n l (-1)
    obtain ⟨r2, g2⟩ := give_ex r1 k m 1
    obtain ⟨e1, e2, e3⟩ := give_two h1 h2 g1 g2
    have := e1.uniq h4
    subst this
    have s1 := g1.sum hφ (by have := e3 (n, l); simp [upd, elF] at this; omega) (cfg_sorted h1)
    have s2 := g2.sum hφ (by rw [el_Gd e2]; have := e3 (k, m); omega) e2.1
    rw [s2, s1]
  · cases h
theorem move_el {c r : List Sh} {n l k m : Int} (h : MoveR c n l k m r true) : elB r = elB c := by
  have hs := move_sum (φ := cnt) (fun _ _ _ _ => rfl) h
  rcases h with ⟨_, h1, h2, h3, h4, h5⟩ | ⟨h, _⟩
  · unfold elB
    rw [if_pos h1, if_pos h5, vsum_sum _ _ _ (Nat.le_refl _), vsum_sum _ _ _ (Nat.le_refl _), List.take_length, List.take_length, hs]
    simp [cnt]
    omega
  · cases h
theorem move_pa {c r : List Sh} {n l k m : Int} (h : MoveR c n l k m r true) : (paB r != paB c) = ((l + m) % 2 == 1) := by
  have hs := move_sum (φ := par) (fun n o x d => by simp [par, Int.mul_add]) h
  rcases h with ⟨_, h1, h2, h3, h4, h5⟩ | ⟨h, _⟩
  · unfold paB
    rw [if_pos h1, if_pos h5, vsum_sum _ _ _ (Nat.le_refl _), vsum_sum _ _ _ (Nat.le_refl _), List.take_length, List.take_length, hs]
    simp only [par]
    generalize sumS _ c = x
    have e : x + l * -1 + m * 1 = x - l + m := by omega
    rw [e]
    rw [Bool.eq_iff_iff]
    simp
    omega
  · cases h

end Go.Proofs.Ytgemocbpfbdnmaa
