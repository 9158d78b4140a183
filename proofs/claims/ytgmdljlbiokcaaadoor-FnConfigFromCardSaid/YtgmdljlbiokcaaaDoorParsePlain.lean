/-
  Reading the text of a shell: plain laws.
-/
import Derived.Test.YtgmdljlbiokcaaaDoorTextPlain
import Derived.Lib.Atoi
import Derived.Lib.Bytealg
import Derived.Laws.Cover4
import Derived.Laws.IdiomStrings
namespace Go.Proofs.YtgmdljlbiokcaaaDoor
set_option linter.unusedVariables false
set_option maxRecDepth 100000

/-- the runes of a text -/
def runL (s : ByteArray) : Nat → Nat → List Nat
  | 0, _ => []
  | b + 1, i => if i < s.size then (Utf8.decode s i).1 :: runL s b (i + (Utf8.decode s i).2) else []
theorem runes_eq (s : ByteArray) : ∀ (b i : Nat) (acc : Array Value), Conv.runesFrom s b i acc = acc ++ ((runL s b i).map fun r : Nat => Value.int .i32 (r : Int)).toArray
  | 0, i, acc => by simp [Conv.runesFrom, runL]
  | b + 1, i, acc => by
    unfold Conv.runesFrom runL
    by_cases h : i < s.size
    · rw [if_pos h, if_pos h]
      simp only
      rw [runes_eq s b]
      apply Array.ext'
      simp
    · rw [if_neg h, if_neg h]
      simp
/-- the value of a digit or two, or -1 -/
def digI : List UInt8 → Int
  | [a] => if 48 ≤ a.toNat ∧ a.toNat ≤ 57 then (a.toNat : Int) - 48 else -1
  | [a, b] => if 48 ≤ a.toNat ∧ a.toNat ≤ 57 then (if 48 ≤ b.toNat ∧ b.toNat ≤ 57 then 10 * ((a.toNat : Int) - 48) + ((b.toNat : Int) - 48) else -1) else -1
  | _ => -1
/-- the orbital number of a letter -/
def letV (b : UInt8) : Int := if b = 115 then 0 else if b = 112 then 1 else if b = 100 then 2 else if b = 102 then 3 else -1
/-- what is read -/
def frL : List UInt8 → Int × Int × Int
  | a :: b :: r => ((a.toNat : Int) - 48, letV b, digI r)
  | _ => (0, 0, 0)
def frS (s : ByteArray) : Bool × Sh :=
  if 3 ≤ s.size ∧ s.size ≤ 4 then (if shText (frL s.data.toList).1 (frL s.data.toList).2.1 (frL s.data.toList).2.2 = s then (true, frL s.data.toList) else (false, 0, 0, 0)) else (false, 0, 0, 0)

def shL (n l c : Nat) : List UInt8 := UInt8.ofNat (48 + n) :: (if l = 0 then 115 else if l = 1 then 112 else if l = 2 then 100 else 102) :: (if c < 10 then [UInt8.ofNat (48 + c)] else [UInt8.ofNat (48 + c / 10), UInt8.ofNat (48 + c % 10)])
theorem shText_L (n l c : Nat) (h : shB n l c = true) : shText n l c = ⟨(shL n l c).toArray⟩ := by
  have hb := shB_true.1 h
  refine ba_ext ?_
  unfold shText
  rw [if_pos h]
  simp only [ba_app, Int.toNat_natCast]
  have e : (((l : Nat) : Int) + 1).toNat = l + 1 := by omega
  rw [e, dec1 (show n < 10 by omega)]
  have hl : l = 0 ∨ l = 1 ∨ l = 2 ∨ l = 3 := by omega
  unfold shL
  by_cases h1 : c < 10
  · rw [dec1 h1, if_pos h1]
    rcases hl with rfl | rfl | rfl | rfl <;> rfl
  · rw [dec2 h1 (by omega), dec1 (show c / 10 < 10 by omega), if_neg h1]
    rcases hl with rfl | rfl | rfl | rfl <;> rfl

def okP (n l c : Nat) : Bool :=
  let s : ByteArray := ⟨(shL n l c).toArray⟩
  let z := runL s s.size 0
  decide (3 ≤ s.size ∧ s.size ≤ 4 ∧ 3 ≤ z.length ∧ z.length ≤ 4) && decide (frL s.data.toList = ((n : Int), (l : Int), (c : Int))) &&
  decide (z.getD 0 0 = 48 + n) && decide (z.getD 1 0 < 128) && decide (Lib.indexByte [115, 112, 100, 102] (z.getD 1 0).toUInt8 = (l : Int)) && decide (Lib.atoi (runesBytes ((z.map fun r : Nat => (r : Int)).drop 2)).data.toList = some (c : Int))
theorem ok_all : ∀ n : Nat, n < 8 → ∀ l : Nat, l < 4 → ∀ c : Nat, c < 15 → shB n l c = true → okP n l c = true := by decide +kernel

/-- a text of a shell is read back -/
theorem parse_of {n l c : Int} (h : shB n l c = true) {s : ByteArray} (hs : shText n l c = s) :
    ∃ N : Nat, n = N ∧ 3 ≤ s.size ∧ s.size ≤ 4 ∧ 3 ≤ (runL s s.size 0).length ∧ (runL s s.size 0).length ≤ 4 ∧ frL s.data.toList = (n, l, c) ∧ (runL s s.size 0).getD 0 0 = 48 + N ∧ (runL s s.size 0).getD 1 0 < 128 ∧
      Lib.indexByte [115, 112, 100, 102] ((runL s s.size 0).getD 1 0).toUInt8 = l ∧ Lib.atoi (runesBytes (((runL s s.size 0).map fun r : Nat => (r : Int)).drop 2)).data.toList = some c := by
  have hb := shB_true.1 h
  obtain ⟨N, rfl⟩ := Int.eq_ofNat_of_zero_le (show 0 ≤ n by omega)
  obtain ⟨M, rfl⟩ := Int.eq_ofNat_of_zero_le (show 0 ≤ l by omega)
  obtain ⟨C, rfl⟩ := Int.eq_ofNat_of_zero_le (show 0 ≤ c by omega)
  have ht := shText_L N M C h
  have ho := ok_all N (by omega) M (by omega) C (by omega) h
  rw [ht] at hs
  subst hs
  unfold okP at ho
  simp only [Bool.and_eq_true, decide_eq_true_eq] at ho
  obtain ⟨⟨⟨⟨⟨⟨a1, a2, a3, a4⟩, a5⟩, a6⟩, a7⟩, a8⟩, a9⟩ := ho
  exact ⟨N, rfl, a1, a2, a3, a4, a5, a6, a7, a8, a9⟩
theorem fr_of {n l c : Int} (h : shB n l c = true) {s : ByteArray} (hs : shText n l c = s) : frS s = (true, n, l, c) := by
  obtain ⟨N, _, a1, a2, _, _, a5, _⟩ := parse_of h hs
  unfold frS
  rw [if_pos ⟨a1, a2⟩, a5]
  simp only
  rw [if_pos hs]
theorem of_fr {s : ByteArray} {n l c : Int} (h : frS s = (true, n, l, c)) : shB n l c = true ∧ shText n l c = s := by
  unfold frS at h
  split at h
  · rename_i h1
    split at h
    · rename_i h2
      rw [Prod.mk.injEq] at h
      rw [h.2] at h2
      refine ⟨?_, h2⟩
      cases hb : shB n l c
      · unfold shText at h2
        rw [if_neg (by simp [hb])] at h2
        rw [← h2] at h1
        have : ByteArray.empty.size = 0 := rfl
        omega
      · rfl
    · simp at h
  · simp at h
theorem fr_no {s : ByteArray} (h : ∀ n l c, shB n l c = true → shText n l c ≠ s) : frS s = (false, 0, 0, 0) := by
  unfold frS
  split
  · rename_i h1
    split
    · rename_i h2
      cases hb : shB (frL s.data.toList).1 (frL s.data.toList).2.1 (frL s.data.toList).2.2
      · unfold shText at h2
        rw [if_neg (by simp [hb])] at h2
        rw [← h2] at h1
        have : ByteArray.empty.size = 0 := rfl
        omega
      · exact absurd h2 (h _ _ _ hb)
    · rfl
  · rfl
/-- what is read, by a text whose shell is checked -/
theorem fr_test {s : ByteArray} (h3 : 0 < s.size) (n l c : Int) (hp : ∀ x y z, shB x y z = true → shText x y z = s → n = x ∧ l = y ∧ c = z) :
    frS s = if shText n l c = s then (true, n, l, c) else (false, 0, 0, 0) := by
  split
  · rename_i h
    refine fr_of ?_ h
    cases hb : shB n l c
    · unfold shText at h
      rw [if_neg (by simp [hb])] at h
      rw [← h] at h3
      exact absurd h3 (by decide)
    · rfl
  · rename_i h
    refine fr_no fun x y z hb ht => h ?_
    obtain ⟨rfl, rfl, rfl⟩ := hp x y z hb ht
    exact ht

end Go.Proofs.YtgmdljlbiokcaaaDoor
