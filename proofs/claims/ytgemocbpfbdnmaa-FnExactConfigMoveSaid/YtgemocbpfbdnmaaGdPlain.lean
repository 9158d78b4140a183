/-
  Sorted lists of shells as functions of a shell's numbers: plain laws.
-/
import Derived.Test.YtgemocbpfbdnmaaSameSh
import Derived.Test.YtgemocbpfbdnmaaMapRange
import Derived.Sort.Statements
namespace Go.Proofs.Ytgemocbpfbdnmaa
set_option linter.unusedVariables false

def SortedL (l : List Sh) : Prop := l.Pairwise (fun s t => lessB s t = true)
theorem less_irr (s : Sh) : lessB s s = false := by simp [lessB]
theorem less_asym {s t : Sh} (h : lessB s t = true) : lessB t s = false := by simp [lessB] at *; omega
theorem less_trans {s t u : Sh} (h : lessB s t = true) (k : lessB t u = true) : lessB s u = true := by simp [lessB] at *; omega
theorem less_key {s t u : Sh} (h1 : s.1 = u.1) (h2 : s.2.1 = u.2.1) : lessB s t = lessB u t ∧ lessB t s = lessB t u := by simp [lessB, h1, h2]

/-- the shells of a list are just those that a function of the numbers gives electrons to; they stand in order -/
def Gd (r : List Sh) (f : Pr → Int) : Prop := SortedL r ∧ ∀ s : Sh, s ∈ r ↔ s.2.2 ≠ 0 ∧ f (s.1, s.2.1) = s.2.2

theorem sorted_eq : ∀ {l r : List Sh}, SortedL l → SortedL r → (∀ s, s ∈ l ↔ s ∈ r) → l = r := by
  intro l
  induction l with
  | nil =>
    intro r _ _ h
    cases r with
    | nil => rfl
    | cons y r => have := (h y).2 (by simp); simp at this
  | cons x l ih =>
    intro r hl hr h
    cases r with
    | nil => have := (h x).1 (by simp); simp at this
    | cons y r =>
      unfold SortedL at hl hr
      rw [List.pairwise_cons] at hl hr
      have hxy : x = y := by
        rcases List.mem_cons.1 ((h x).1 (by simp)) with e | hx
        · exact e
        rcases List.mem_cons.1 ((h y).2 (by simp)) with e | hy
        · exact e.symm
        have h1 := hr.1 x hx
        have h2 := less_asym (hl.1 y hy)
        rw [h1] at h2
        cases h2
      subst hxy
      congr 1
      refine ih hl.2 hr.2 fun s => ?_
      have hs := h s
      simp only [List.mem_cons] at hs
      constructor
      · intro hm
        rcases hs.1 (.inr hm) with e | e
        · subst e
          have := hl.1 s hm
          rw [less_irr] at this
          cases this
        · exact e
      · intro hm
        rcases hs.2 (.inr hm) with e | e
        · subst e
          have := hr.1 s hm
          rw [less_irr] at this
          cases this
        · exact e
theorem Gd.uniq {l r : List Sh} {f : Pr → Int} (h : Gd l f) (k : Gd r f) : l = r := sorted_eq h.1 k.1 fun s => (h.2 s).trans (k.2 s).symm
theorem Gd.congr {l : List Sh} {f g : Pr → Int} (h : Gd l f) (e : ∀ q, f q = g q) : Gd l g := ⟨h.1, fun s => by rw [h.2 s, e]⟩

/-- the entries of a map that are not 0, as shells -/
def nz (F : List (Pr × Int)) : List Sh := (F.filter (fun p => p.2 != 0)).map (fun p => (p.1.1, p.1.2, p.2))
theorem nz_append (F G : List (Pr × Int)) : nz (F ++ G) = nz F ++ nz G := by simp [nz]
theorem nz_le (F : List (Pr × Int)) : (nz F).length ≤ F.length := by
  unfold nz
  rw [List.length_map]
  exact List.length_filter_le _ _
theorem nz_perm {F G : List (Pr × Int)} (h : F.Perm G) : (nz F).Perm (nz G) := (h.filter _).map _
theorem mem_nz {F : List (Pr × Int)} {s : Sh} : s ∈ nz F ↔ s.2.2 ≠ 0 ∧ ((s.1, s.2.1), s.2.2) ∈ F := by
  obtain ⟨a, b, c⟩ := s
  simp only [nz, List.mem_map, List.mem_filter, bne_iff_ne, ne_eq, Prod.mk.injEq]
  constructor
  · rintro ⟨⟨⟨x, y⟩, z⟩, ⟨h1, h2⟩, rfl, rfl, rfl⟩
    exact ⟨h2, h1⟩
  · rintro ⟨h1, h2⟩
    exact ⟨_, ⟨h2, h1⟩, rfl, rfl, rfl⟩
theorem getF_mem {F : List (Pr × Int)} (hn : (F.map (·.1)).Nodup) {q : Pr} {v : Int} (h : (q, v) ∈ F) : getF F q = v := by
  induction F with
  | nil => simp at h
  | cons p F ih =>
    simp only [List.map_cons, List.nodup_cons] at hn
    simp only [getF]
    rcases List.mem_cons.1 h with e | h
    · rw [← e, if_pos rfl]
    · rw [if_neg, ih hn.2 h]
      intro e
      exact hn.1 (List.mem_map.2 ⟨_, h, e.symm⟩)
theorem mem_getF {F : List (Pr × Int)} {q : Pr} (h : getF F q ≠ 0) : (q, getF F q) ∈ F := by
  induction F with
  | nil => simp [getF] at h
  | cons p F ih =>
    simp only [getF] at h ⊢
    split
    · rename_i e
      rw [← e]
      simp
    · rename_i e
      rw [if_neg e] at h
      exact List.mem_cons_of_mem _ (ih h)
theorem nz_key {F : List (Pr × Int)} (hn : (F.map (·.1)).Nodup) {s t : Sh} (hs : s ∈ nz F) (ht : t ∈ nz F) (h1 : s.1 = t.1) (h2 : s.2.1 = t.2.1) : s = t := by
  have a := getF_mem hn (mem_nz.1 hs).2
  have b := getF_mem hn (mem_nz.1 ht).2
  rw [h1, h2, b] at a
  exact Prod.ext h1 (Prod.ext h2 a.symm)
theorem Gd.of_perm {F : List (Pr × Int)} (hn : (F.map (·.1)).Nodup) {r : List Sh} (hs : SortedL r) (hp : r.Perm (nz F)) : Gd r (getF F) := by
  refine ⟨hs, fun s => ?_⟩
  rw [hp.mem_iff, mem_nz]
  constructor
  · rintro ⟨h1, h2⟩
    exact ⟨h1, getF_mem hn h2⟩
  · rintro ⟨h1, h2⟩
    refine ⟨h1, ?_⟩
    have := mem_getF (F := F) (q := (s.1, s.2.1)) (by rw [h2]; exact h1)
    rw [h2] at this
    exact this

theorem nz_nodup {F : List (Pr × Int)} (hn : (F.map (·.1)).Nodup) : (nz F).Pairwise (fun s t => ¬ (s.1 = t.1 ∧ s.2.1 = t.2.1)) := by
  unfold nz
  rw [List.pairwise_map]
  have h1 : F.Pairwise (fun a b => a.1 ≠ b.1) := List.pairwise_map.1 hn
  refine (h1.filter _).imp ?_
  rintro ⟨⟨a, b⟩, c⟩ ⟨⟨x, y⟩, z⟩ hne ⟨h2, h3⟩
  exact hne (by simp at h2 h3; simp [h2, h3])
/-- ascending, and no two with the same numbers: sorted -/
theorem sorted_of {F : List (Pr × Int)} (hn : (F.map (·.1)).Nodup) {d : Array Sh} {lt : Sh → Sh → Bool} (hlt : ∀ s t, lt s t = lessB s t) (hs : Go.Sort.SortedIn lt 0 d.size d) (hp : d.toList.Perm (nz F)) : SortedL d.toList := by
  have hd : d.toList.Pairwise (fun s t => ¬ (s.1 = t.1 ∧ s.2.1 = t.2.1)) := (hp.symm.pairwise_iff (fun {a b} h => fun e => h ⟨e.1.symm, e.2.symm⟩)).1 (nz_nodup hn)
  unfold SortedL
  rw [List.pairwise_iff_getElem] at hd ⊢
  intro i j hi hj hij
  have h1 := hd i j hi hj hij
  have h2 := hs i j (Nat.zero_le _) hij (by simpa using hj)
  have hi' : i < d.size := by simpa using hi
  have hj' : j < d.size := by simpa using hj
  rw [hlt, getElem!_pos d j hj', getElem!_pos d i hi'] at h2
  simp only [Array.getElem_toList] at h1 ⊢
  generalize d[i] = s at *
  generalize d[j] = t at *
  simp [lessB] at h1 h2 ⊢
  omega

end Go.Proofs.Ytgemocbpfbdnmaa
