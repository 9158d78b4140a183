/-
  Slices of structs of two integers: what the walks are told of them; append of one to a slice of the call's own.
-/
import Derived.Test.YtgemocbpfbdnmaaLaw
import Derived.OwnWalk
import Derived.Laws.OwnMore
namespace Go.Proofs.Ytgemocbpfbdnmaa
open Go.ChangeShapes Go.WideShapes Go.ChangeAt Go.RowKit Go.Deep Go.Joins
set_option linter.unusedVariables false

abbrev Pr := Int × Int
def prCells (s : Pr) : List Value := [.int .i64 s.1, .int .i64 s.2]
def flat2 (l : List Pr) : List Value := l.flatMap prCells
theorem flat2_append (l r : List Pr) : flat2 (l ++ r) = flat2 l ++ flat2 r := by simp [flat2]
theorem flat2_one (s : Pr) : flat2 [s] = prCells s := by simp [flat2]
theorem flat2_length (l : List Pr) : (flat2 l).length = l.length * 2 := by
  induction l with
  | nil => rfl
  | cons s l ih => simp only [flat2, List.flatMap_cons, List.length_append, List.length_cons] at ih ⊢; rw [ih]; simp [prCells]; omega
theorem flat2_get (l : List Pr) : ∀ (i : Nat) (s : Pr), l[i]? = some s → (flat2 l)[i * 2]? = some (.int .i64 s.1) ∧ (flat2 l)[i * 2 + 1]? = some (.int .i64 s.2) := by
  induction l with
  | nil => intro i s h; simp at h
  | cons x l ih =>
    intro i s h
    have e : flat2 (x :: l) = .int .i64 x.1 :: .int .i64 x.2 :: flat2 l := rfl
    rw [e]
    match i, h with
    | 0, h => simp at h; subst h; simp
    | i + 1, h =>
      have := ih i s (by simpa using h)
      rw [show (i + 1) * 2 = i * 2 + 1 + 1 by omega]
      simpa using this

/-- A slice value that reads as a list of pairs; it lies below block B. -/
def PrAt (w : World) (B : Nat) (v : Value) (l : List Pr) : Prop :=
  ∃ A c, v = .slice A l.length c ∧ l.length ≤ c ∧ c ≤ maxLen ∧ (0 < l.length → ∃ b off, A = some ⟨b, off, none⟩ ∧ b < B ∧ ∀ i s, l[i]? = some s →
    w.cell? ⟨b, off + i * 2, none⟩ = some (.int .i64 s.1) ∧ w.cell? ⟨b, off + i * 2 + 1, none⟩ = some (.int .i64 s.2))
theorem PrAt.below {w w' : World} {B : Nat} {v : Value} {l : List Pr} (h : PrAt w B v l) (hb : Below B w w') : PrAt w' B v l := by
  obtain ⟨A, c, hv, h1, h2, h3⟩ := h
  refine ⟨A, c, hv, h1, h2, fun hl => ?_⟩
  obtain ⟨b, off, ha, hlt, hc⟩ := h3 hl
  refine ⟨b, off, ha, hlt, fun i s hs => ?_⟩
  obtain ⟨c0, c1⟩ := hc i s hs
  exact ⟨(hb.cell (p := ⟨b, off + i * 2, none⟩) hlt).trans c0, (hb.cell (p := ⟨b, off + i * 2 + 1, none⟩) hlt).trans c1⟩
theorem PrAt.more {w : World} {B B' : Nat} {v : Value} {l : List Pr} (h : PrAt w B v l) (hB : B ≤ B') : PrAt w B' v l := by
  obtain ⟨A, c, hv, h1, h2, h3⟩ := h
  refine ⟨A, c, hv, h1, h2, fun hl => ?_⟩
  obtain ⟨b, off, ha, hlt, hc⟩ := h3 hl
  exact ⟨b, off, ha, by omega, hc⟩
theorem PrAt.bel {w w' : World} {v : Value} {l : List Pr} (h : PrAt w w.heap.size v l) (hb : Below w.heap.size w w') : PrAt w' w'.heap.size v l := (h.below hb).more hb.size

/-- an owned slice of structs of type t that reads as a list of pairs -/
def OwnP (t : TypeId) (w : World) (B : Nat) (v : Value) (l : List Pr) : Prop := w.ownsRow B t 2 v l.length (flat2 l)
section
variable {t : TypeId}
theorem OwnP.alloc {w : World} {B : Nat} {v : Value} {l : List Pr} (h : OwnP t w B v l) (o : Obj) : OwnP t (w.alloc o) B v l := World.ownsRow.alloc h o
theorem OwnP.drewN {w : World} {B : Nat} {v : Value} {l : List Pr} (h : OwnP t w B v l) (n : Nat) : OwnP t (w.drewN n) B v l := h
theorem OwnP.nil (w : World) (B : Nat) : OwnP t w B (.slice none 0 0) [] := World.ownsRow_nil _ _ _ _
theorem OwnP.empty (w : World) (B : Nat) (h : B ≤ w.heap.size) : OwnP t (w.alloc (.cells #[] t)) B (.slice (some ⟨w.heap.size, 0, none⟩) 0 0) [] :=
  ⟨rfl, .inr ⟨w.heap.size, 0, #[], rfl, h, heap_alloc_new w _, Nat.le_refl _, by simp [maxLen], rfl, rfl⟩⟩
theorem OwnP.kept {w w' : World} {B : Nat} {v : Value} {l : List Pr} {row : Option Nat} (h : OwnP t w B v l) (hg : w.grownBy w' row) (hne : v.ownBlock = none ∨ v.ownBlock ≠ row) : OwnP t w' B v l := World.ownsRow.kept h hg hne
theorem OwnP.below {w w' : World} {B : Nat} {v : Value} {l : List Pr} (h : OwnP t w B v l) (hb : Below w.heap.size w w') : OwnP t w' B v l := by
  cases e : v.ownBlock with
  | none => exact h.kept (row := none) ⟨hb.os, hb.tape, hb.output, hb.size, fun k hk _ => hb.block k hk⟩ (.inl e)
  | some k => exact h.kept (row := none) ⟨hb.os, hb.tape, hb.output, hb.size, fun k hk _ => hb.block k hk⟩ (.inr (by rw [e]; simp))
theorem OwnP.far {w : World} {B : Nat} {v : Value} {l : List Pr} (h : OwnP t w B v l) {p : Addr} (hp : v.ownBlock ≠ some p.block) (u : Value) : OwnP t (w.setCell p u) B v l :=
  h.kept (row := some p.block) ⟨rfl, rfl, rfl, by simp [World.setCell], fun k hk hne => Below.heap_setCell w p u k (fun e => hne (by rw [e]))⟩ (.inr hp)
theorem OwnP.pick {w w' : World} {B g : Nat} {v : Value} {l : List Pr} (h : OwnP t w B v l) (hg : w.grownBy w' (some g)) (hB : g < B) : OwnP t w' B v l := by
  refine h.kept hg ?_
  cases e : v.ownBlock with
  | none => exact .inl rfl
  | some k => exact .inr fun e' => by have := World.ownsRow.lt h k e; injection e' with e'; omega
theorem OwnP.less {w : World} {B B' : Nat} {v : Value} {l : List Pr} (h : OwnP t w B v l) (hB : B' ≤ B) : OwnP t w B' v l := by
  refine ⟨h.1, ?_⟩
  rcases h.2 with h | ⟨g, cap, cur, hv, hb, hr⟩
  · exact .inl h
  · exact .inr ⟨g, cap, cur, hv, by omega, hr⟩
theorem OwnP.at_ {w : World} {B : Nat} {v : Value} {l : List Pr} (h : OwnP t w B v l) : PrAt w w.heap.size v l := by
  rcases h.2 with ⟨rfl, hn⟩ | ⟨g, cap, cur, hv, hb, hg, hnc, hcm, hsz, htk⟩
  · refine ⟨none, 0, ?_, by omega, by simp [maxLen], fun h => by omega⟩
    rw [hn]
  · refine ⟨_, cap, hv, hnc, hcm, fun hl => ⟨g, 0, rfl, (Array.getElem?_eq_some_iff.1 hg).1, fun i s hs => ?_⟩⟩
    subst hv
    have hi : i < l.length := (List.getElem?_eq_some_iff.1 hs).1
    obtain ⟨e0, e1⟩ := flat2_get l i s hs
    simp only [Nat.zero_add]
    exact ⟨(World.ownsRow.cellAt h (i * 2) (by omega)).trans e0, (World.ownsRow.cellAt h (i * 2 + 1) (by omega)).trans e1⟩
theorem OwnP.free {w : World} {B : Nat} {v : Value} {l : List Pr} (h : OwnP t w B v l) :
    (v = .slice none 0 0 ∧ l.length = 0) ∨ ∃ g cap, v.ownBlock = some g ∧ B ≤ g ∧ v = .slice (some ⟨g, 0, none⟩) l.length cap ∧ l.length ≤ cap ∧ cap ≤ maxLen ∧ g < w.heap.size := by
  rcases h.2 with ⟨rfl, hn⟩ | ⟨g, cap, cur, hv, hb, hg, hnc, hcm, hsz, htk⟩
  · exact .inl ⟨rfl, hn⟩
  · exact .inr ⟨g, cap, by rw [hv]; rfl, hb, hv, hnc, hcm, (Array.getElem?_eq_some_iff.1 hg).1⟩
end
theorem own_here' {w : World} {t : TypeId} {C : Array Value} {g : Nat} (h : g = w.heap.size) : Own (w.alloc (.cells C t)) g t C := by rw [h]; exact Own.new w t C

/-- 'append' of one struct of two integers, at a plain region's list -/
theorem app_pair {ops : Array Oper} {rest : List Oper} {o : Oper} {a : Act} {Q : Exit → Act → World → Prop} {w : World} {t ts : TypeId} (hu : Try.prog.underlying ts = some (.slice t))
    (hinf : (Try.prog.info? t).map (fun i => (i.zero, i.size, i.bytes)) = some (some (.agg #[.int .i64 0, .int .i64 0]), 2, 16)) (B : Nat) (hgd : o.guard = none) (ks kx : Nat)
    (ho : o.op = .call { callee := .builtin .append, args := #[.tmp ks, .tmp kx], argTypes := #[ts, ts] })
    (v : Value) (l : List Pr) (hs : a.eval (.tmp ks) = v) (hown : OwnP t w B v l) (hB : B ≤ w.heap.size) (g : Nat) (s : Pr) (hx : a.eval (.tmp kx) = .slice (some ⟨g, 0, none⟩) 1 1)
    (hnew : Own w g t #[.int .i64 s.1, .int .i64 s.2]) (hl : l.length ≤ 16777216)
    (h : ∀ v' w', OwnP t w' B v' (l ++ [s]) → w.grownBy w' v.ownBlock → (v'.ownBlock = v.ownBlock ∨ v'.ownBlock = some w.heap.size) → wpList Try.prog ops Q rest (a.put o.dst v') w') :
    wpList Try.prog ops Q (o :: rest) a w := by
  obtain ⟨i0, hi, hz0, hz1, hz2⟩ := info_parts hinf
  refine wpList_append_own_at w hgd (.tmp ks) (.tmp kx) ts ho B t i0 _ 2 16 hu hi hz0 hz1 hz2 rfl (by omega) v l.length (flat2 l) hs hown ⟨g, 0, none⟩ 1 1 (prCells s) hx rfl
    (World.news_of_block hnew) (by simp [prCells, Value.oneCell']) (by unfold maxLen; omega) (by omega) hB ?_
  intro v' w' h1 h2 h3 h4
  refine h v' w' ?_ h2 h4
  unfold OwnP
  rw [flat2_append, List.length_append, flat2_one]
  exact h1

end Go.Proofs.Ytgemocbpfbdnmaa
