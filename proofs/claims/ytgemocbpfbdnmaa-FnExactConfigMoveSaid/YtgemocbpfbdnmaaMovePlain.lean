/-
  Moves of an electron between shells: plain laws.
-/
import Derived.Test.YtgemocbpfbdnmaaSpecGive
namespace Go.Proofs.Ytgemocbpfbdnmaa
set_option linter.unusedVariables false

/-- a shell put at its place -/
def insS : List Sh → Sh → List Sh
  | [], s => [s]
  | x :: r, s => if lessB s x = true then s :: x :: r else x :: insS r s
theorem insS_snoc (s x : Sh) : ∀ a : List Sh, insS (a ++ [x]) s = if a.any (lessB s) = true then insS a s ++ [x] else if lessB s x = true then a ++ [s] ++ [x] else a ++ [x] ++ [s] := by
  intro a
  induction a with
  | nil => simp [insS]
  | cons y a ih =>
    have e1 : insS (y :: a ++ [x]) s = if lessB s y = true then s :: y :: (a ++ [x]) else y :: insS (a ++ [x]) s := rfl
    have e2 : insS (y :: a) s = if lessB s y = true then s :: y :: a else y :: insS a s := rfl
    rw [e1, e2, ih, List.any_cons]
    cases lessB s y <;> cases a.any (lessB s) <;> cases lessB s x <;> simp
theorem insS_none {s : Sh} : ∀ {a : List Sh}, a.any (lessB s) = false → insS a s = a ++ [s] := by
  intro a
  induction a with
  | nil => intro _; rfl
  | cons y a ih =>
    intro h
    simp only [List.any_cons, Bool.or_eq_false_iff] at h
    unfold insS
    rw [if_neg (by simp [h.1]), ih h.2]
    rfl
theorem putUp_ins (l : List Sh) (s : Sh) : ∀ k, k ≤ l.length → putUp l s k = if (l.take k).any (lessB s) = true then (insS (l.take k) s, true) else (l.take k, false) := by
  intro k
  induction k with
  | zero => intro _; simp [putUp]
  | succ k ih =>
    intro hk
    have hlt : k < l.length := by omega
    have hx : l.getD k sh0 = l[k] := by simp [List.getD, List.getElem?_eq_getElem hlt]
    have hu : putUp l s (k + 1) = if (putUp l s k).2 = false ∧ lessB s (l.getD k sh0) = true then ((putUp l s k).1 ++ [s] ++ [l.getD k sh0], true) else ((putUp l s k).1 ++ [l.getD k sh0], (putUp l s k).2) := rfl
    rw [hu, ih (by omega), hx, List.take_succ_eq_append_getElem hlt, List.any_append, insS_snoc]
    generalize l[k] = x
    generalize l.take k = a
    cases h1 : a.any (lessB s) <;> cases h2 : lessB s x <;> simp [h1, h2]
theorem putS_ins (l : List Sh) (s : Sh) : putS l s = insS l s := by
  unfold putS
  rw [putUp_ins l s l.length (Nat.le_refl _), List.take_length]
  cases h : l.any (lessB s)
  · simp [insS_none h]
  · simp
theorem mem_insS {s t : Sh} : ∀ {l : List Sh}, t ∈ insS l s ↔ t = s ∨ t ∈ l := by
  intro l
  induction l with
  | nil => simp [insS]
  | cons x l ih =>
    unfold insS
    split
    · simp
    · simp only [List.mem_cons, ih]
      constructor
      · rintro (h | h | h) <;> simp [h]
      · rintro (h | h | h) <;> simp [h]
theorem sorted_insS {s : Sh} : ∀ {l : List Sh}, SortedL l → (∀ x ∈ l, ¬ (x.1 = s.1 ∧ x.2.1 = s.2.1)) → SortedL (insS l s) := by
  intro l
  induction l with
  | nil => intro _ _; exact List.pairwise_singleton _ _
  | cons x l ih =>
    intro h hk
    have h' := List.pairwise_cons.1 h
    unfold insS
    split
    · rename_i hl
      refine List.pairwise_cons.2 ⟨fun y hy => ?_, h⟩
      rcases List.mem_cons.1 hy with rfl | hy
      · exact hl
      · exact less_trans hl (h'.1 y hy)
    · rename_i hl
      refine List.pairwise_cons.2 ⟨fun y hy => ?_, ih h'.2 fun y hy => hk y (by simp [hy])⟩
      rcases mem_insS.1 hy with rfl | hy
      · have := hk x (by simp)
        simp [lessB] at hl ⊢
        omega
      · exact h'.1 y hy

/-- a function changed at one place -/
def upd (f : Pr → Int) (q : Pr) (v : Int) : Pr → Int := fun p => if p = q then v else f p
theorem Gd.give {c r : List Sh} {f : Pr → Int} {n o d : Int} (h : Gd c f) (hg : GiveR c n o d r) (h0 : 0 ≤ f (n, o) + d) (h1 : f (n, o) = 0 → d ≠ 0) : Gd r (upd f (n, o) (f (n, o) + d)) := by
  obtain ⟨hs, hm⟩ := h
  rcases hg with ⟨hno, rfl⟩ | ⟨k, hk, k1, k2, hr⟩
  · have hnone : ∀ x ∈ c, ¬ (x.1 = n ∧ x.2.1 = o) := fun x hx => by
      obtain ⟨i, hi, rfl⟩ := List.mem_iff_getElem.1 hx
      have := hno i hi
      simpa [List.getD, List.getElem?_eq_getElem hi] using this
    have hf : f (n, o) = 0 := Decidable.byContradiction fun hne => hnone (n, o, f (n, o)) ((hm _).2 ⟨hne, rfl⟩) ⟨rfl, rfl⟩
    rw [putS_ins, hf, Int.zero_add]
    refine ⟨sorted_insS hs hnone, fun s => ?_⟩
    rw [mem_insS, hm]
    obtain ⟨a, b, x⟩ := s
    unfold upd
    by_cases e : (a, b) = (n, o)
    · simp only [Prod.mk.injEq] at e
      obtain ⟨rfl, rfl⟩ := e
      simp only [if_pos, hf]
      constructor
      · rintro (e | ⟨e1, e2⟩)
        · simp only [Prod.mk.injEq, true_and] at e
          exact ⟨by rw [e]; exact h1 hf, e.symm⟩
        · exact absurd e2.symm e1
      · rintro ⟨e1, e2⟩
        exact .inl (by rw [e2])
    · dsimp only
      rw [if_neg e]
      constructor
      · rintro (h | h)
        · simp only [Prod.mk.injEq] at h e
          exact absurd ⟨h.1, h.2.1⟩ e
        · exact h
      · exact .inr
  · have hx : c.getD k sh0 = c[k] := by simp [List.getD, List.getElem?_eq_getElem hk]
    have hc : c = c.take k ++ c[k] :: c.drop (k + 1) := by
      rw [← List.drop_eq_getElem_cons hk, List.take_append_drop]
    rw [hx] at k1 k2 hr
    have hset : ∀ y, c.set k y = c.take k ++ y :: c.drop (k + 1) := fun y => by rw [List.set_eq_take_append_cons_drop, if_pos hk]
    rw [hset] at hr
    clear hset hx
    generalize c[k] = s at *
    generalize c.take k = A at *
    generalize c.drop (k + 1) = B at *
    subst hc
    have hsf := (hm s).1 (by simp)
    rw [k1, k2] at hsf
    unfold SortedL at hs
    rw [List.pairwise_append, List.pairwise_cons] at hs
    obtain ⟨p1, ⟨p2, p3⟩, p4⟩ := hs
    have hA : ∀ x ∈ A, ¬ ((x.1, x.2.1) = (n, o)) := fun x hx e => by
      have := p4 x hx s (by simp)
      simp only [Prod.mk.injEq] at e
      simp [lessB] at this
      omega
    have hB : ∀ x ∈ B, ¬ ((x.1, x.2.1) = (n, o)) := fun x hx e => by
      have := p2 x hx
      simp only [Prod.mk.injEq] at e
      simp [lessB] at this
      omega
    rcases hr with ⟨hp, rfl⟩ | ⟨hp, rfl⟩
    · refine ⟨?_, fun t => ?_⟩
      · unfold SortedL
        rw [List.pairwise_append, List.pairwise_cons]
        have hk2 := fun t => less_key (s := s) (t := t) (u := (n, o, s.2.2 + d)) k1 k2
        refine ⟨p1, ⟨fun x hx => by rw [← (hk2 x).1]; exact p2 x hx, p3⟩, fun x hx y hy => ?_⟩
        rcases List.mem_cons.1 hy with rfl | hy
        · rw [← (hk2 x).2]; exact p4 x hx s (by simp)
        · exact p4 x hx y (by simp [hy])
      · have hmt := hm t
        unfold upd
        by_cases e : (t.1, t.2.1) = (n, o)
        · rw [if_pos e, hsf.2]
          have hna : t ∉ A := fun hx => hA t hx e
          have hnb : t ∉ B := fun hx => hB t hx e
          obtain ⟨t1, t2, t3⟩ := t
          simp only [Prod.mk.injEq] at e
          obtain ⟨rfl, rfl⟩ := e
          simp only [List.mem_append, List.mem_cons, hna, hnb, false_or, or_false, Prod.mk.injEq, true_and]
          constructor
          · intro e; exact ⟨by omega, by omega⟩
          · intro e; omega
        · rw [if_neg e, ← hmt]
          have hnt : t ≠ s := fun h => e (by rw [h, k1, k2])
          have hny : t ≠ (n, o, s.2.2 + d) := fun h => e (by rw [h])
          simp [hnt, hny]
    · refine ⟨?_, fun t => ?_⟩
      · unfold SortedL
        rw [List.pairwise_append]
        exact ⟨p1, p3, fun x hx y hy => p4 x hx y (by simp [hy])⟩
      · have hmt := hm t
        unfold upd
        by_cases e : (t.1, t.2.1) = (n, o)
        · rw [if_pos e, hsf.2]
          have hna : t ∉ A := fun hx => hA t hx e
          have hnb : t ∉ B := fun hx => hB t hx e
          simp only [List.mem_append, hna, hnb, or_self, false_iff]
          rw [hsf.2] at h0
          omega
        · rw [if_neg e, ← hmt]
          have hnt : t ≠ s := fun h => e (by rw [h, k1, k2])
          simp [hnt]

end Go.Proofs.Ytgemocbpfbdnmaa
