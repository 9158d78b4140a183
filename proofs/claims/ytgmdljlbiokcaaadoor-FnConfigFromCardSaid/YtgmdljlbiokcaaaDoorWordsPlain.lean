/-
  The words of a text: plain laws; what is read of a text of a configuration.
-/
import Derived.Test.YtgmdljlbiokcaaaDoorParsePlain
import Derived.Lib.SplitLaws
namespace Go.Proofs.YtgmdljlbiokcaaaDoor
set_option linter.unusedVariables false

/-- what is between spaces -/
def wordsL : List UInt8 → List (List UInt8)
  | [] => [[]]
  | b :: r => if b = 32 then [] :: wordsL r else match wordsL r with
    | w :: ws => (b :: w) :: ws
    | [] => [[b]]
theorem wordsL_cons (b : UInt8) (r : List UInt8) (h : b ≠ 32) {w : List UInt8} {ws : List (List UInt8)} (e : wordsL r = w :: ws) : wordsL (b :: r) = (b :: w) :: ws := by
  rw [wordsL, if_neg h, e]
theorem wordsL_sp (r : List UInt8) : wordsL (32 :: r) = [] :: wordsL r := by rw [wordsL, if_pos rfl]
theorem wordsL_ne : ∀ s : List UInt8, ∃ w ws, wordsL s = w :: ws
  | [] => ⟨[], [], rfl⟩
  | b :: r => by
    by_cases h : b = 32
    · subst h; exact ⟨_, _, wordsL_sp r⟩
    · obtain ⟨w, ws, e⟩ := wordsL_ne r
      exact ⟨_, _, wordsL_cons b r h e⟩
theorem wordsL_cut : ∀ (a b : List UInt8), (∀ x ∈ a, x ≠ 32) → wordsL (a ++ 32 :: b) = a :: wordsL b
  | [], b, _ => wordsL_sp b
  | x :: a, b, h => wordsL_cons x _ (h x (by simp)) (wordsL_cut a b (fun y hy => h y (by simp [hy])))
theorem wordsL_one : ∀ (a : List UInt8), (∀ x ∈ a, x ≠ 32) → wordsL a = [a]
  | [], _ => rfl
  | x :: a, h => wordsL_cons x _ (h x (by simp)) (wordsL_one a (fun y hy => h y (by simp [hy])))
theorem wordsL_app : ∀ (a b : List UInt8), wordsL (a ++ 32 :: b) = wordsL a ++ wordsL b
  | [], b => wordsL_sp b
  | x :: a, b => by
    have ih := wordsL_app a b
    by_cases h : x = 32
    · subst h
      rw [List.cons_append, wordsL_sp, wordsL_sp, ih, List.cons_append]
    · obtain ⟨w, ws, e⟩ := wordsL_ne a
      rw [e] at ih
      rw [List.cons_append, wordsL_cons x _ h (ih.trans (List.cons_append ..)), wordsL_cons x a h e, List.cons_append]
theorem wordsL_nosp : ∀ (s : List UInt8), ∀ w ∈ wordsL s, ∀ x ∈ w, x ≠ 32
  | [], w, hw, x, hx => by
    simp [wordsL] at hw
    subst hw
    simp at hx
  | b :: r, w, hw, x, hx => by
    have ih := wordsL_nosp r
    by_cases h : b = 32
    · subst h
      rw [wordsL_sp] at hw
      rcases List.mem_cons.1 hw with rfl | hw
      · simp at hx
      · exact ih w hw x hx
    · obtain ⟨v, vs, e⟩ := wordsL_ne r
      rw [wordsL_cons b r h e] at hw
      rcases List.mem_cons.1 hw with rfl | hw
      · rcases List.mem_cons.1 hx with rfl | hx
        · exact h
        · exact ih v (by rw [e]; simp) x hx
      · exact ih w (by rw [e]; simp [hw]) x hx

/-- the library's split -/
theorem split_words : ∀ s : List UInt8, Lib.split s [32] = wordsL s
  | [] => rfl
  | b :: l => by
    have ih := split_words l
    by_cases h : b = 32
    · subst h
      have hix : Lib.index (32 :: l) [32] = ((0 : Nat) : Int) := by rw [Lib.index]; simp [List.isPrefixOf]
      unfold Lib.split at ih ⊢
      rw [Lib.count_cons_eq, Nat.add_comm, Lib.splitK, hix, wordsL_sp]
      simp [ih]
    · have hp : ([32] : List UInt8).isPrefixOf (b :: l) = false := by simp [List.isPrefixOf, Ne.symm h]
      have hix : Lib.index (b :: l) [32] = if Lib.index l [32] == -1 then -1 else Lib.index l [32] + 1 := by rw [Lib.index, hp]; simp
      unfold Lib.split at ih ⊢
      rw [Lib.count_cons_ne b 32 l h]
      cases hk : Lib.count l [32] with
      | zero =>
        rw [hk] at ih
        exact (wordsL_cons b l h ih.symm).symm
      | succ k =>
        rw [hk] at ih
        by_cases hm : Lib.index l [32] = -1
        · rw [Lib.count_miss hm] at hk; omega
        · have hge := Lib.index_ge l [32]
          obtain ⟨j, hj⟩ : ∃ j : Nat, Lib.index l [32] = j := ⟨(Lib.index l [32]).toNat, by omega⟩
          have hix' : Lib.index (b :: l) [32] = ((j + 1 : Nat) : Int) := by rw [hix, if_neg (fun e => hm (beq_iff_eq.1 e)), hj]; omega
          rw [Lib.splitK, if_neg (by rw [hj]; simp <;> omega), hj] at ih
          rw [Lib.splitK, if_neg (by rw [hix']; simp <;> omega), hix']
          rw [wordsL_cons b l h ih.symm]
          have e1 : (((j + 1 : Nat) : Int)).toNat = j + 1 := by omega
          have e2 : (((j : Nat) : Int)).toNat = j := by omega
          rw [e1, e2]
          have e3 : j + 1 + ([32] : List UInt8).length = (j + ([32] : List UInt8).length) + 1 := by simp
          rw [e3]
          simp

/-- the words as texts -/
def wordsB (s : ByteArray) : List ByteArray := (wordsL s.data.toList).map fun l => ⟨l.toArray⟩
theorem wordsB_split (s : ByteArray) : Lib.splitB ⟨#[32]⟩ 0 (Lib.countB s ⟨#[32]⟩) s = wordsB s := by
  have h := Lib.splitB_data ⟨#[32]⟩ 0 (Lib.countB s ⟨#[32]⟩) s
  have h2 := split_words s.data.toList
  unfold Lib.split at h2
  have h3 : (Lib.splitB ⟨#[32]⟩ 0 (Lib.countB s ⟨#[32]⟩) s).map (·.data.toList) = wordsL s.data.toList := h.trans h2
  unfold wordsB
  rw [← h3, List.map_map]
  refine (List.map_id _).symm.trans ?_
  apply List.map_congr_left
  intro x _
  refine ba_ext ?_
  simp
theorem wordsB_len (s : ByteArray) : (wordsB s).length = Lib.countB s ⟨#[32]⟩ + 1 := by
  rw [← wordsB_split]
  exact Lib.splitB_all ⟨#[32]⟩ (by decide) 0 _ s rfl
theorem wordsB_le (s : ByteArray) : (wordsB s).length ≤ s.size + 1 := by
  rw [wordsB_len]
  have := Lib.countB_le ⟨#[32]⟩ (by decide) s.size s (Nat.le_refl _)
  omega

/-- what is read of a text of a configuration -/
def cfS (s : ByteArray) : Bool × List Sh := if ((wordsB s).all fun x => (frS x).1) = true ∧ cfgB ((wordsB s).map fun x => (frS x).2) = true then (true, (wordsB s).map fun x => (frS x).2) else (false, [])

theorem fr_cases (s : ByteArray) : (∃ n l c, frS s = (true, n, l, c)) ∨ frS s = (false, 0, 0, 0) := by
  unfold frS
  split
  · split
    · exact .inl ⟨_, _, _, rfl⟩
    · exact .inr rfl
  · exact .inr rfl
theorem txt_fr {x : ByteArray} (h : (frS x).1 = true) : okSh (frS x).2 = true ∧ txt (frS x).2 = x := by
  rcases fr_cases x with ⟨n, l, c, e⟩ | e
  · rw [e]
    exact of_fr e
  · rw [e] at h; simp at h

/-- a shell's text holds no space -/
theorem shL_nosp : ∀ n : Nat, n < 8 → ∀ l : Nat, l < 4 → ∀ c : Nat, c < 15 → (shL n l c).all (fun b => b != 32) = true := by decide +kernel
theorem txt_nosp {x : Sh} (h : okSh x = true) : ∀ b ∈ (txt x).data.toList, b ≠ 32 := by
  obtain ⟨n, l, c⟩ := x
  have hb := shB_true.1 h
  simp only at hb
  obtain ⟨N, rfl⟩ := Int.eq_ofNat_of_zero_le (show 0 ≤ n by omega)
  obtain ⟨M, rfl⟩ := Int.eq_ofNat_of_zero_le (show 0 ≤ l by omega)
  obtain ⟨C, rfl⟩ := Int.eq_ofNat_of_zero_le (show 0 ≤ c by omega)
  have ht : (txt (((N : Nat) : Int), ((M : Nat) : Int), ((C : Nat) : Int))).data.toList = shL N M C := by
    unfold txt
    rw [show shText ((N : Nat) : Int) ((M : Nat) : Int) ((C : Nat) : Int) = _ from shText_L N M C h]
  rw [ht]
  have := shL_nosp N (by omega) M (by omega) C (by omega)
  rw [List.all_eq_true] at this
  intro b hb
  simpa using this b hb
theorem join_words : ∀ s : List UInt8, Lib.join (wordsL s) [32] = s
  | [] => rfl
  | b :: r => by
    have ih := join_words r
    obtain ⟨w, ws, e⟩ := wordsL_ne r
    by_cases h : b = 32
    · subst h
      rw [wordsL_sp, e, Lib.join_cons]
      rw [e, Lib.join_cons] at ih
      rw [← ih]
      simp [Lib.joinTail]
    · rw [wordsL_cons b r h e, Lib.join_cons, List.cons_append]
      rw [e, Lib.join_cons] at ih
      rw [ih]
theorem words_join : ∀ (x : List UInt8) (xs : List (List UInt8)), (∀ y ∈ x :: xs, ∀ b ∈ y, b ≠ 32) → wordsL (Lib.join (x :: xs) [32]) = x :: xs
  | x, [], h => by
    rw [Lib.join_one]
    exact wordsL_one x (h x (by simp))
  | x, y :: ys, h => by
    have ih := words_join y ys (fun z hz => h z (List.mem_cons_of_mem _ hz))
    rw [Lib.join_cons] at ih ⊢
    have e : x ++ Lib.joinTail [32] (y :: ys) = x ++ 32 :: (y ++ Lib.joinTail [32] ys) := by simp [Lib.joinTail]
    rw [e, wordsL_cut x _ (h x (by simp)), ih]

theorem cfg_ok {c : List Sh} (h : cfgB c = true) {x : Sh} (hx : x ∈ c) : okSh x = true := by
  obtain ⟨i, hi, rfl⟩ := List.getElem_of_mem hx
  have h1 := cfg_sh h hi
  have e2 : c.getD i sh0 = c[i] := by simp [List.getD, List.getElem?_eq_getElem hi]
  rwa [e2] at h1
theorem cT_data {c : List Sh} (h : cfgB c = true) : (cT c).data.toList = Lib.join (c.map fun x => (txt x).data.toList) [32] := by
  unfold cT
  rw [if_pos h, ctUp_join c c.length (Nat.le_refl _), List.take_length, List.map_map]
  rfl
/-- a configuration is read back -/
theorem cf_of {c : List Sh} (h : cfgB c = true) : cfS (cT c) = (true, c) := by
  have hw : wordsB (cT c) = c.map txt := by
    unfold wordsB
    rw [cT_data h]
    cases c with
    | nil => simp [cfgB] at h
    | cons x xs =>
      rw [List.map_cons, words_join]
      · rw [← List.map_cons (f := fun x => (txt x).data.toList), List.map_map]
        apply List.map_congr_left
        intro y _
        exact ba_ext rfl
      · intro y hy
        rw [← List.map_cons (f := fun x => (txt x).data.toList)] at hy
        obtain ⟨z, hz, rfl⟩ := List.mem_map.1 hy
        exact txt_nosp (cfg_ok h hz)
  have hf : ∀ x ∈ c, frS (txt x) = (true, x) := fun x hx => fr_of (n := x.1) (l := x.2.1) (c := x.2.2) (cfg_ok h hx) rfl
  have hm : (c.map txt).map (fun x => (frS x).2) = c := by
    rw [List.map_map]
    refine Eq.trans (List.map_congr_left (g := id) ?_) (List.map_id _)
    intro x hx
    simp [hf x hx]
  unfold cfS
  rw [hw, hm, if_pos]
  refine ⟨?_, h⟩
  rw [List.all_eq_true]
  intro x hx
  obtain ⟨z, hz, rfl⟩ := List.mem_map.1 hx
  rw [hf z hz]
/-- what is read is valid, and it is the text's -/
theorem of_cf {s : ByteArray} (h : (cfS s).1 = true) : cfgB (cfS s).2 = true ∧ cT (cfS s).2 = s := by
  unfold cfS at h ⊢
  split
  · rename_i h1
    simp only
    refine ⟨h1.2, ?_⟩
    refine ba_ext ?_
    rw [cT_data h1.2, List.map_map]
    have hm : (wordsB s).map ((fun x => (txt x).data.toList) ∘ fun x => (frS x).2) = wordsL s.data.toList := by
      have h2 : (wordsB s).map ((fun x => (txt x).data.toList) ∘ fun x => (frS x).2) = (wordsB s).map (·.data.toList) := by
        apply List.map_congr_left
        intro x hx
        show (txt (frS x).2).data.toList = x.data.toList
        rw [(txt_fr (List.all_eq_true.1 h1.1 x hx)).2]
      rw [h2]
      unfold wordsB
      rw [List.map_map]
      exact List.map_id _
    rw [hm, join_words]
  · rename_i h1
    rw [if_neg h1] at h
    simp at h
theorem sp_data (a : ByteArray) : ((⟨#[32]⟩ : ByteArray) ++ a).data.toList = 32 :: a.data.toList := by rw [ba_app]; rfl
theorem cf_front (s : ByteArray) : cfS (⟨#[32]⟩ ++ s) = (false, []) := by
  unfold cfS
  rw [if_neg]
  intro h
  have h1 := h.1
  unfold wordsB at h1
  rw [sp_data, wordsL_sp, List.map_cons, List.all_cons, Bool.and_eq_true] at h1
  have h2 : (frS ⟨([] : List UInt8).toArray⟩).1 = false := by decide
  rw [h2] at h1
  exact absurd h1.1 (by decide)
theorem cfg_double {l : List Sh} (h : cfgB (l ++ l) = true) : False := by
  have hp : 0 < l.length := by
    cases l with
    | nil => simp [cfgB] at h
    | cons _ _ => simp
  have hs := cfg_srt h
  have hi : ∀ i, 0 < i → ∀ hi : i < (l ++ l).length, lessB ((l ++ l)[0]'(by omega)) ((l ++ l)[i]) = true := by
    intro i
    induction i with
    | zero => intro h0; omega
    | succ i ih =>
      intro _ hi
      have h2 := hs (i + 1) (by omega) hi
      by_cases h0 : i = 0
      · subst h0; exact h2
      · have h1 := ih (by omega) (by omega)
        simp only [Nat.add_sub_cancel] at h2
        simp [lessB] at h1 h2 ⊢
        omega
  have := hi l.length hp (by simp; omega)
  have e1 : (l ++ l)[l.length]'(by simp; omega) = l[0] := by rw [List.getElem_append_right (by omega)]; simp
  have e0 : (l ++ l)[0]'(by simp; omega) = l[0] := List.getElem_append_left hp
  rw [e1, e0] at this
  simp [lessB] at this
theorem cf_twice (s : ByteArray) : cfS (s ++ ⟨#[32]⟩ ++ s) = (false, []) := by
  have hw : wordsB (s ++ ⟨#[32]⟩ ++ s) = wordsB s ++ wordsB s := by
    have e := wordsL_app s.data.toList s.data.toList
    unfold wordsB
    rw [show (s ++ ⟨#[32]⟩ ++ s).data.toList = s.data.toList ++ 32 :: s.data.toList by rw [ba_app, ba_app]; simp, e, List.map_append]
  unfold cfS
  rw [hw, if_neg]
  intro h
  rw [List.map_append] at h
  exact cfg_double h.2
theorem fr_space {s : ByteArray} : frS (s ++ ⟨#[32]⟩) = (false, 0, 0, 0) := by
  refine fr_no fun n l c h ht => ?_
  have h2 := txt_nosp (x := (n, l, c)) h 32 (by
    show (32 : UInt8) ∈ (shText n l c).data.toList
    rw [ht, ba_app]
    simp)
  exact h2 rfl

end Go.Proofs.YtgmdljlbiokcaaaDoor
