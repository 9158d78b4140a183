/-
  What the laws of moves ask of a move. Plain laws.
-/
import Derived.Test.YtgemocbpfbdnmaaImplMove
namespace Go.Proofs.Ytgemocbpfbdnmaa
set_option linter.unusedVariables false

theorem move_yes {c r : List Sh} {n l k m : Int} (h : MoveR c n l k m r true) : cfgB c = true ∧ elAt c n l ≠ 0 ∧ (n, l) ≠ (k, m) ∧ Gd r (mvF (elF c) n l k m) ∧ cfgB r = true := by
  rcases h with ⟨_, h1, h2, h3, h4, h5⟩ | ⟨h, _⟩
  · exact ⟨h1, h2, h3, h4, h5⟩
  · cases h
theorem move_at {c r : List Sh} {n l k m : Int} (h : MoveR c n l k m r true) (x y : Int) : elAt r x y = elAt c x y + (if (x, y) = (k, m) then 1 else 0) - (if (x, y) = (n, l) then 1 else 0) := by
  obtain ⟨h1, h2, h3, h4, h5⟩ := move_yes h
  rw [el_Gd h4, mvF_at h3]
  rfl
theorem move_law {c r : List Sh} {n l k m : Int} (h : MoveR c n l k m r true) :
    cfgB r = true ∧ elB r = elB c ∧ elAt r n l = elAt c n l - 1 ∧ elAt r k m = elAt c k m + 1 ∧ (0 ≤ elAt c n l ∧ elAt c n l ≤ 14) ∧ (0 ≤ elAt c k m ∧ elAt c k m ≤ 14) := by
  obtain ⟨h1, h2, h3, h4, h5⟩ := move_yes h
  refine ⟨h5, move_el h, ?_, ?_, elF_bd h1 (n, l), elF_bd h1 (k, m)⟩
  · rw [move_at h, if_neg h3, if_pos rfl]; omega
  · rw [move_at h, if_pos rfl, if_neg (Ne.symm h3)]; omega
/-- the move back -/
theorem move_back {c r x : List Sh} {n l k m : Int} {p : Bool} (h : MoveR c n l k m r true) (h' : MoveR r k m n l x p) : p = true ∧ x = c := by
  obtain ⟨h1, h2, h3, h4, h5⟩ := move_yes h
  have hb := elF_bd h1 (k, m)
  have hf : ∀ q, mvF (elF r) k m n l q = elF c q := fun q => by
    rw [mvF_at (Ne.symm h3)]
    have := move_at h q.1 q.2
    show elAt r q.1 q.2 + _ - _ = _
    rw [this]
    show elF c q + _ - _ + _ - _ = _
    have e : (q.1, q.2) = q := rfl
    rw [e]
    omega
  have hc := cfg_Gd h1
  rcases h' with ⟨rfl, k1, k2, k3, k4, k5⟩ | ⟨rfl, rfl, k6⟩
  · exact ⟨rfl, (k4.congr hf).uniq hc⟩
  · refine absurd ?_ (k6 h5 ?_ (Ne.symm h3))
    · have := (cfg_okF hc).1 h1
      rwa [show mvF (elF r) k m n l = elF c from funext hf]
    · rw [move_at h, if_pos rfl, if_neg (Ne.symm h3)]
      have : 0 ≤ elAt c k m := hb.1
      omega
/-- two moves of different electrons -/
theorem move_other {c r x y z : List Sh} {n l k m a b : Int} {p q s : Bool} (h : MoveR c n l k m r true) (h1 : (a, b) ≠ (n, l)) (h2 : (a, b) ≠ (k, m)) (h3 : (k, m) ≠ (7, 0)) (h4 : (n, l) ≠ (7, 0)) (h5 : (a, b) ≠ (7, 0))
    (hx : MoveR r a b 7 0 x p) (hy : MoveR c a b 7 0 y q) (hz : MoveR y n l k m z s) : (p = true ↔ q = true ∧ s = true) ∧ (p = true → x = z) := by
  obtain ⟨g1, g2, g3, g4, g5⟩ := move_yes h
  have hea : elAt r a b = elAt c a b := by rw [move_at h, if_neg h2, if_neg h1]; omega
  have hab := elF_bd g1
  -- the electrons of y, where it is
  have hyz : q = true → (∀ t, mvF (elF y) n l k m t = mvF (elF r) a b 7 0 t) ∧ elAt y n l ≠ 0 ∧ cfgB y = true := fun hq => by
    subst hq
    obtain ⟨y1, y2, y3, y4, y5⟩ := move_yes hy
    refine ⟨fun t => ?_, ?_, y5⟩
    · rw [mvF_at g3, mvF_at h5]
      have e1 := move_at h t.1 t.2
      have e2 := move_at hy t.1 t.2
      show elAt y t.1 t.2 + _ - _ = elAt r t.1 t.2 + _ - _
      rw [e1, e2]
      have e : (t.1, t.2) = t := rfl
      rw [e]
      omega
    · rw [move_at hy, if_neg h4, if_neg (Ne.symm h1)]
      omega
  have hpq : p = true → q = true := fun hp => by
    subst hp
    obtain ⟨x1, x2, x3, x4, x5⟩ := move_yes hx
    rcases hy with ⟨hq, _⟩ | ⟨rfl, rfl, k6⟩
    · exact hq
    · refine absurd ?_ (k6 g1 (by rw [← hea]; exact x2) h5)
      have hox := (cfg_okF x4).1 x5
      have hoc := (cfg_okF (cfg_Gd g1)).1 g1
      refine ⟨fun u v huv => ?_, 7, 0, ?_⟩
      · by_cases e7 : (u, v) = (7, 0)
        · have e1 : mvF (elF c) a b 7 0 (u, v) = mvF (elF r) a b 7 0 (u, v) := by
            rw [mvF_at h5, mvF_at h5]
            have := move_at h u v
            obtain ⟨rfl, rfl⟩ : u = 7 ∧ v = 0 := by simpa using e7
            have n3 : ((7, 0) : Int × Int) ≠ (k, m) := Ne.symm h3
            have n4 : ((7, 0) : Int × Int) ≠ (n, l) := Ne.symm h4
            rw [if_neg n3, if_neg n4] at this
            have e0 : elF c (7, 0) = elF r (7, 0) := by show elAt c 7 0 = elAt r 7 0; omega
            rw [e0]
          rw [e1] at huv ⊢
          exact hox.1 u v huv
        · have e1 : mvF (elF c) a b 7 0 (u, v) = elF c (u, v) - if (u, v) = (a, b) then 1 else 0 := by
            rw [mvF_at h5, if_neg e7]; omega
          rw [e1] at huv ⊢
          have hne : elF c (u, v) ≠ 0 := by
            intro h0
            have hcab : elAt c a b ≠ 0 := by rw [← hea]; exact x2
            by_cases ea : (u, v) = (a, b)
            · have : elF c (a, b) ≠ 0 := hcab
              rw [← ea] at this
              exact this h0
            · rw [if_neg ea, h0] at huv
              exact huv rfl
          have hk := okSh_bd (hoc.1 u v hne)
          dsimp only at hk
          have hk' : 1 ≤ u ∧ u ≤ 7 ∧ 0 ≤ v ∧ v ≤ 3 ∧ v < u ∧ 1 ≤ elF c (u, v) ∧ elF c (u, v) ≤ 4 * v + 2 := hk
          have hb := hab (u, v)
          refine shB_true.2 ?_
          dsimp only
          split at huv <;> rename_i ee
          · rw [if_pos ee]; omega
          · rw [if_neg ee]; omega
      · rw [mvF_at h5, if_pos rfl, if_neg (Ne.symm h5)]
        have := (hab (7, 0)).1
        omega
  constructor
  · constructor
    · intro hp
      have hq := hpq hp
      obtain ⟨e1, e2, e3⟩ := hyz hq
      refine ⟨hq, ?_⟩
      subst hp
      obtain ⟨x1, x2, x3, x4, x5⟩ := move_yes hx
      rcases hz with ⟨hs, _⟩ | ⟨rfl, rfl, k6⟩
      · exact hs
      · refine absurd ?_ (k6 e3 e2 g3)
        rw [show mvF (elF y) n l k m = mvF (elF r) a b 7 0 from funext e1]
        exact (cfg_okF x4).1 x5
    · rintro ⟨hq, hs⟩
      obtain ⟨e1, e2, e3⟩ := hyz hq
      subst hs
      obtain ⟨z1, z2, z3, z4, z5⟩ := move_yes hz
      rcases hx with ⟨hp, _⟩ | ⟨rfl, rfl, k6⟩
      · exact hp
      · refine absurd ?_ (k6 g5 ?_ h5)
        · rw [← show mvF (elF y) n l k m = mvF (elF r) a b 7 0 from funext e1]
          exact (cfg_okF z4).1 z5
        · rw [hea]
          subst hq
          exact (move_yes hy).2.1
  · intro hp
    have hq := hpq hp
    obtain ⟨e1, e2, e3⟩ := hyz hq
    subst hp
    obtain ⟨x1, x2, x3, x4, x5⟩ := move_yes hx
    rcases hz with ⟨rfl, z1, z2, z3, z4, z5⟩ | ⟨rfl, rfl, k6⟩
    · exact (x4.congr fun t => (e1 t).symm).uniq z4
    · refine absurd ?_ (k6 e3 e2 g3)
      rw [show mvF (elF y) n l k m = mvF (elF r) a b 7 0 from funext e1]
      exact (cfg_okF x4).1 x5

end Go.Proofs.Ytgemocbpfbdnmaa
